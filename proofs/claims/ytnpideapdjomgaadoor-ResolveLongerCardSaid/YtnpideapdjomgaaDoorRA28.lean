/- Texts that lead to the claim, one behind the other: bytes.Trim at " \t": the kit's contract, laid at this program; whether a text is a label: the walk of parse.isLabel. No conditions. Printed by gen/trim22.py. -/
import Derived.Test.YtnpideapdjomgaaDoorRA15
import Derived.Test.YtnpideapdjomgaaDoorShelf
import Derived.Shelf.Bytes.SlTrim
import Derived.Shelf.Strings.SlTrimAscii
import Derived.Deep.DeepMust
import Derived.Deep.QuietTactic
import Derived.BigQuiet
namespace Go.Proofs.YtnpideapdjomgaaDoor
open Go.RowKit Go.Shelf Go.Deep Go.ChangeShapes Go.WideShapes

def trimRen22 : Ren := ⟨fun | 6 => 57 | 9 => 63 | 10 => 64 | 11 => 65 | 12 => 66 | 13 => 67 | 14 => 68 | 15 => 69 | 16 => 72 | 17 => 73 | 18 => 75 | 19 => 76 | 20 => 81 | 21 => 82 | n => n,
  fun | 0 => 0 | 3 => 3 | 4 => 4 | 5 => 5 | 9 => 9 | 21 => 21 | 22 => 39 | 27 => 104 | 28 => 105 | 31 => 108 | 33 => 112 | 36 => 41 | 37 => 119 | 39 => 123 | 40 => 124 | n => n,
  fun | 0 => 1 | 1 => 2 | n => n⟩
theorem trimLays22 : Go.Proofs.SlLaysV.n6 Tryd.prog trimRen22 := {
  mixed := by kernel_rfl
  f6 := Tryd.func57.trans (congrArg some (by kernel_rfl))
  f9 := Tryd.func63.trans (congrArg some (by kernel_rfl))
  f10 := Tryd.func64.trans (congrArg some (by kernel_rfl))
  f11 := Tryd.func65.trans (congrArg some (by kernel_rfl))
  f12 := Tryd.func66.trans (congrArg some (by kernel_rfl))
  f13 := Tryd.func67.trans (congrArg some (by kernel_rfl))
  f14 := Tryd.func68.trans (congrArg some (by kernel_rfl))
  f15 := Tryd.func69.trans (congrArg some (by kernel_rfl))
  f16 := Tryd.func72.trans (congrArg some (by kernel_rfl))
  f17 := Tryd.func73.trans (congrArg some (by kernel_rfl))
  f18 := Tryd.func75.trans (congrArg some (by kernel_rfl))
  f19 := Tryd.func76.trans (congrArg some (by kernel_rfl))
  f20 := Tryd.func81.trans (congrArg some (by kernel_rfl))
  f21 := Tryd.func82.trans (congrArg some (by kernel_rfl))
  t0 := Tryd.underlying0
  a0 := Tryd.isAgg0
  z0 := Tryd.sizeOf0
  v0 := Tryd.zeroValue0
  t3 := Tryd.underlying3
  a3 := Tryd.isAgg3
  z3 := Tryd.sizeOf3
  v3 := Tryd.zeroValue3
  t4 := Tryd.underlying4
  a4 := Tryd.isAgg4
  z4 := Tryd.sizeOf4
  v4 := Tryd.zeroValue4
  t5 := Tryd.underlying5
  a5 := Tryd.isAgg5
  z5 := Tryd.sizeOf5
  v5 := Tryd.zeroValue5
  t9 := Tryd.underlying9
  a9 := Tryd.isAgg9
  z9 := Tryd.sizeOf9
  v9 := Tryd.zeroValue9
  t21 := Tryd.underlying21
  a21 := Tryd.isAgg21
  z21 := Tryd.sizeOf21
  v21 := Tryd.zeroValue21
  t22 := Tryd.underlying39
  a22 := Tryd.isAgg39
  z22 := Tryd.sizeOf39
  v22 := Tryd.zeroValue39
  t27 := Tryd.underlying104
  a27 := Tryd.isAgg104
  z27 := Tryd.sizeOf104
  t28 := Tryd.underlying105
  a28 := Tryd.isAgg105
  z28 := Tryd.sizeOf105
  v28 := Tryd.zeroValue105
  t31 := Tryd.underlying108
  a31 := Tryd.isAgg108
  z31 := Tryd.sizeOf108
  v31 := Tryd.zeroValue108
  t33 := Tryd.underlying112
  a33 := Tryd.isAgg112
  z33 := Tryd.sizeOf112
  v33 := Tryd.zeroValue112
  t36 := Tryd.underlying41
  a36 := Tryd.isAgg41
  z36 := Tryd.sizeOf41
  t37 := Tryd.underlying119
  a37 := Tryd.isAgg119
  z37 := Tryd.sizeOf119
  v37 := Tryd.zeroValue119
  t39 := Tryd.underlying123
  a39 := Tryd.isAgg123
  z39 := Tryd.sizeOf123
  v39 := Tryd.zeroValue123
  t40 := Tryd.underlying124
  a40 := Tryd.isAgg124
  z40 := Tryd.sizeOf124
  v40 := Tryd.zeroValue124 }

theorem isBlank (y : UInt8) : ([32, 9] : List UInt8).contains y = Cmd.blank y := by
  show (y == 32 || (y == 9 || false)) = _
  rw [Bool.or_false]; rfl
theorem dropWhile_len {p : UInt8 → Bool} (l : List UInt8) : (l.dropWhile p).length ≤ l.length := (List.dropWhile_suffix p).length_le
theorem trim_len_label (l : List UInt8) : decide ((Lib.trimS l [32, 9]).length = l.length) = (l.isEmpty || (!Cmd.blank (l.headD 0) && !Cmd.blank (l.getLastD 0))) := by
  unfold Lib.trimS Lib.trimLeftS Lib.trimRightS
  cases l with
  | nil => rfl
  | cons x l =>
    obtain ⟨r, y, hr⟩ : ∃ r y, x :: l = r ++ [y] := ⟨(x :: l).dropLast, (x :: l).getLast (by simp), (List.dropLast_concat_getLast (by simp)).symm⟩
    have hlast : (x :: l).getLastD 0 = y := by rw [hr]; simp
    rw [hlast, List.isEmpty_cons, Bool.false_or, List.headD_cons]
    have hl := congrArg List.length hr
    rw [List.length_append, List.length_singleton] at hl
    cases hy : Cmd.blank y with
    | true =>
      have h1 : ((x :: l).reverse.dropWhile ([32, 9].contains ·)).length ≤ r.length := by
        rw [hr, List.reverse_append, List.reverse_singleton, List.singleton_append, List.dropWhile_cons_of_pos (by rw [isBlank]; exact hy)]
        have := dropWhile_len (p := ([32, 9].contains ·)) r.reverse
        rw [List.length_reverse] at this
        exact this
      have h2 := dropWhile_len (p := ([32, 9].contains ·)) ((x :: l).reverse.dropWhile ([32, 9].contains ·)).reverse
      rw [List.length_reverse] at h2
      simp only [Bool.not_true, Bool.and_false, decide_eq_false_iff_not]
      omega
    | false =>
      have h1 : ((x :: l).reverse.dropWhile ([32, 9].contains ·)).reverse = x :: l := by
        rw [hr, List.reverse_append, List.reverse_singleton, List.singleton_append, List.dropWhile_cons_of_neg (by rw [isBlank, hy]; simp), List.reverse_cons, List.reverse_reverse]
      rw [h1]
      cases hx : Cmd.blank x with
      | true =>
        rw [List.dropWhile_cons_of_pos (by rw [isBlank]; exact hx)]
        have := dropWhile_len (p := ([32, 9].contains ·)) l
        simp only [Bool.not_true, Bool.false_and, decide_eq_false_iff_not, List.length_cons]
        omega
      | false =>
        rw [List.dropWhile_cons_of_neg (by rw [isBlank, hx]; simp)]
        simp
theorem trim_len_le (l : List UInt8) : (Lib.trimS l [32, 9]).length ≤ l.length ∧ (Lib.trimS l [32, 9]).length ≤ (Lib.trimRightS l [32, 9]).length ∧ (Lib.trimRightS l [32, 9]).length ≤ l.length := by
  have h1 := dropWhile_len (p := ([32, 9].contains ·)) (Lib.trimRightS l [32, 9])
  have h2 := Lib.trimRightS_len_le l [32, 9]
  exact ⟨Nat.le_trans h1 h2, h1, h2⟩
theorem bytesAt_of {w : World} {S : Blocks} {A : Option Addr} {n c : Nat} {l : List UInt8} (hn : n = l.length) (hl : SliceAt Rep.byte w S A c l) : Lib.BytesAt w A n l := by
  intro h0
  obtain ⟨g, o, hA, -, -⟩ := hl.byte (i := 0) (by omega)
  refine ⟨g, o, hA, fun i hi => ?_⟩
  obtain ⟨g', o', hA', -, hc⟩ := hl.byte (i := i) (by omega)
  rw [hA] at hA'
  simp only [Option.some.injEq, Addr.mk.injEq] at hA'
  obtain ⟨rfl, rfl, -⟩ := hA'
  rw [hc, List.getD_eq_getElem?_getD, List.getElem?_eq_getElem (by omega)]
  rfl
/-- bytes.Trim of blanks: how long what is left is. -/
theorem trim_any {A : Option Addr} {n c : Nat} {l : List UInt8} {w : World} {S : Blocks} (hn : Hid (n = l.length)) (hl : Hid (SliceAt Rep.byte w S A c l)) (h0 : 0 < n) :
    Calls Tryd.prog 57 #[.slice A n c, .string ⟨#[32, 9]⟩] w fun e w' => (∃ A' c', e = .returned (.slice A' (Lib.trimS l [32, 9]).length c')) ∧ Below w.heap.size w w' := by
  have h27 : (Tryd.prog.info? 104).map (fun i => (i.zero, i.size)) = some (some (.agg (Array.replicate 256 (.bool false))), 256) := by kernel_rfl
  have hlen := hl.out.len
  rw [← hn.out] at hlen
  have h := Any.bytes_Trim_set trimLays22 (zero_of_info h27).1 (zero_of_info h27).2 A n c l ⟨#[32, 9]⟩ w hn.out.symm hlen hl.out.max (bytesAt_of hn.out hl.out) (by decide) h0 (by decide) (ascii_of_all (by decide))
  refine h.mono ?_
  rintro e w' ⟨rfl, rfl⟩
  refine ⟨?_, Below.alloc (Below.alloc (Below.refl _ _) (Nat.le_refl _) _) (by simp) _⟩
  have hle := (trim_len_le l).2.1
  show ∃ A' c', Ending.returned (Lib.leftV A (Lib.trimRightS l [32, 9]).length c ((Lib.trimRightS l [32, 9]).length - (Lib.trimS l [32, 9]).length)) = _
  unfold Lib.leftV Lib.fromV
  split
  · rename_i h9
    have h0 : (Lib.trimS l [32, 9]).length = 0 := by
      rcases Nat.eq_zero_or_pos (Lib.trimRightS l [32, 9]).length with h | h <;> omega
    exact ⟨none, 0, by rw [h0]⟩
  · have h8 : (Lib.trimRightS l [32, 9]).length - ((Lib.trimRightS l [32, 9]).length - (Lib.trimS l [32, 9]).length) = (Lib.trimS l [32, 9]).length := by omega
    exact ⟨_, _, by rw [h8]⟩
theorem trim_nil {A : Option Addr} {c : Nat} {w : World} :
    Calls Tryd.prog 57 #[.slice A 0 c, .string ⟨#[32, 9]⟩] w fun e w' => e = .returned (.slice none 0 0) ∧ w = w' := by
  go_enter Tryd.func57, Tryd.ntmps57
  go_wp2_with fail
  go_ret
  exact ⟨rfl, rfl⟩
/-- bytes.IndexByte of a list. -/
theorem indexByte_list {A : Option Addr} {n c : Nat} {l : List UInt8} {w : World} {S : Blocks} (hn : Hid (n = l.length)) (hl : Hid (SliceAt Rep.byte w S A c l)) (x : Int) (y : UInt8) (hx : x = y.toNat) :
    Calls Tryd.prog 56 #[.slice A n c, .int .u8 x] w fun e w' => e = .returned (.int .i64 (Lib.indexByte l y)) ∧ w' = w := by
  subst hx
  rcases Nat.eq_zero_or_pos l.length with h0 | h0
  · have : l = [] := List.eq_nil_of_length_eq_zero h0
    subst this
    have hn0 : n = 0 := hn.out
    subst hn0
    have hc := hl.out.2.2.1
    cases A with
    | none =>
      rw [hc rfl]
      have h : Calls Tryd.prog 56 #[.slice none 0 0, .int .u8 (y.toNat : Int)] w fun e w' => e = .returned (.int .i64 (-1)) ∧ w' = w := Tryd.bytes_IndexByte_nil _ _
      exact h.mono fun e w' h => h
    | some a =>
      refine (Tryd.bytes_IndexByte_at a 0 c [] _ w rfl (fun i hi => absurd hi (by omega))).mono ?_
      rintro e w' ⟨rfl, rfl⟩
      exact ⟨rfl, rfl⟩
  · obtain ⟨g, o, rfl, -, -⟩ := hl.out.byte (i := 0) h0
    refine (Tryd.bytes_IndexByte_at ⟨g, o, none⟩ n c (l.map fun b => (b.toNat : Int)) _ w (by rw [List.length_map]; exact hn.out.symm) (fun i hi => ?_)).mono ?_
    · obtain ⟨g', o', hA', -, hc⟩ := hl.out.byte (i := i) (by have := hn.out; omega)
      simp only [Option.some.injEq, Addr.mk.injEq] at hA'
      obtain ⟨rfl, rfl, -⟩ := hA'
      rw [List.getD_eq_getElem?_getD, List.getElem?_map, List.getElem?_eq_getElem (by have := hn.out; omega)]
      rw [add_plain]
      exact hc
    · rintro e w' ⟨rfl, rfl⟩
      refine ⟨?_, rfl⟩
      have h1 : Lib.bytesOf (l.map fun b => (b.toNat : Int)) = l := by
        unfold Lib.bytesOf
        rw [List.map_map]
        conv => rhs; rw [← List.map_id l]
        exact List.map_congr_left fun b _ => by simp
      rw [h1]
      simp
set_option maxRecDepth 100000 in
set_option maxHeartbeats 4000000 in
theorem isLabel_any {A : Option Addr} {n c : Nat} {l : List UInt8} {w : World} {S : Blocks} (hn : Hid (n = l.length)) (hl : Hid (SliceAt Rep.byte w S A c l)) :
    Calls Tryd.prog 46 #[.slice A n c] w fun e w' => e = .returned (.bool (Cmd.label l)) ∧ Below w.heap.size w w' := by
  have hnc : n ≤ c := by rw [hn.out]; exact hl.out.len
  have hcm := hl.out.max
  obtain ⟨ix, hix⟩ : ∃ ix, ix = Lib.indexByte l 10 := ⟨_, rfl⟩
  have HI : Hid (Calls Tryd.prog 56 #[.slice A n c, .int .u8 10] w fun e w' => e = .returned (.int .i64 ix) ∧ w = w') := Lib.hid ((indexByte_list hn hl 10 10 rfl).mono fun e w' h => ⟨by rw [h.1, hix], h.2.symm⟩)
  obtain ⟨k, hk⟩ : ∃ k, k = (Lib.trimS l [32, 9]).length := ⟨_, rfl⟩
  have hkn : k ≤ n := by rw [hk, hn.out]; exact (trim_len_le l).1
  have HL : Hid (Cmd.label l = (decide (ix < 0) && ((k : Int) == (n : Int)))) := Lib.hid (by
    unfold Cmd.label
    rw [hix, idx_lt0, ← trim_len_label, ← hk, ← hn.out]
    congr 1
    by_cases h : k = n
    · subst h; simp
    · have : ((k : Int) == (n : Int)) = false := by rw [beq_eq_false_iff_ne]; omega
      rw [this]; simpa using h)
  have HT : Hid (Calls Tryd.prog 57 #[.slice A n c, .string ⟨#[32, 9]⟩] w fun e w' => (∃ A' c', e = .returned (.slice A' k c')) ∧ Below w.heap.size w w') := Lib.hid (by
    rcases Nat.eq_zero_or_pos n with h0 | h0
    · have : l = [] := List.eq_nil_of_length_eq_zero (by rw [← hn.out]; exact h0)
      subst this
      subst h0
      have hk0 : k = 0 := by rw [hk]; rfl
      subst hk0
      exact trim_nil.mono fun e w' h => ⟨⟨none, 0, h.1⟩, by rw [h.2]; exact Below.refl _ _⟩
    · rw [hk]; exact trim_any hn hl h0)
  clear hix hk
  go_enter Tryd.func46, Tryd.ntmps46
  cases hd : decide (ix < 0)
  · go_wp2_with (go_at_call 56; refine HI.out.mono ?_; rintro e w2 ⟨rfl, rfl⟩)
    go_ret
    exact ⟨by rw [HL.out, hd]; rfl, Below.refl _ _⟩
  · go_wp2_with (first | (go_at_call 56; refine HI.out.mono ?_; rintro e w2 ⟨rfl, rfl⟩) | (go_at_call 57; refine HT.out.mono ?_; rintro e w3 ⟨⟨A', c', rfl⟩, hb3⟩; have HB3 := Lib.hid hb3; clear hb3))
    all_goals go_ret
    all_goals exact ⟨by rw [HL.out, hd]; simp, HB3.out⟩
end Go.Proofs.YtnpideapdjomgaaDoor
