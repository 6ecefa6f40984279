/- Texts joined, a line end between: the walks of opts.Join and galleyref28.Join; how much texts hold: the walk of long. Condition: room. -/
import Derived.Test.YtmjagjcaepbklaaDoorProg
import Derived.Test.YtmjagjcaepbklaaDoorAppendStr
import Derived.Test.YtmjagjcaepbklaaDoorEqTexts
import Derived.Test.YtmjagjcaepbklaaDoorStBytes
import Derived.WalkKit
import Derived.WalkSpells
import Derived.Deep.LoopGhost
import Derived.WalkMore
import Derived.Deep.CutBlock
import Derived.Lib.Hide
namespace Go.Proofs.YtmjagjcaepbklaaDoor
open Go.RowKit

/-- Each text, a line end ahead of it. -/
def rawJ (l : List ByteArray) : List UInt8 := (l.map fun x => 10 :: x.data.toList).flatten
def joinJ (l : List ByteArray) : List UInt8 := (rawJ l).drop 1
theorem rawJ_append (l m : List ByteArray) : rawJ (l ++ m) = rawJ l ++ rawJ m := by simp [rawJ]
theorem rawJ_of {l : List ByteArray} (h : l ≠ []) : rawJ l = 10 :: joinJ l := by
  cases l with
  | nil => exact absurd rfl h
  | cons x r => simp [rawJ, joinJ]
theorem rawJ_pos {l : List ByteArray} (h : l ≠ []) : 1 ≤ (rawJ l).length := by rw [rawJ_of h]; simp
theorem joinJ_append {l m : List ByteArray} (h : l ≠ []) (k : m ≠ []) : joinJ (l ++ m) = joinJ l ++ 10 :: joinJ m := by
  have := rawJ_pos h
  unfold joinJ
  rw [rawJ_append, List.drop_append_of_le_length this]
  congr 1
  exact rawJ_of k
theorem joinJ_one (x : ByteArray) : joinJ [x] = x.data.toList := by simp [joinJ, rawJ]
theorem joinJ_nil : joinJ [] = [] := rfl
theorem joinJ_len (l : List ByteArray) : (joinJ l).length ≤ (rawJ l).length := by unfold joinJ; rw [List.length_drop]; omega
theorem rawJ_len_take (l : List ByteArray) (i : Nat) (h : i < l.length) : (rawJ (l.take (i + 1))).length = (rawJ (l.take i)).length + 1 + l[i].size := by
  have e : rawJ [l[i]] = 10 :: l[i].data.toList := by simp [rawJ]
  rw [List.take_succ_eq_append_getElem h, rawJ_append, List.length_append, e, List.length_cons, Array.length_toList (xs := l[i].data)]
  show _ = _ + 1 + l[i].data.size
  omega
theorem rawJ_len_le (l : List ByteArray) (i : Nat) : (rawJ (l.take i)).length ≤ (rawJ l).length := by
  conv => rhs; rw [← List.take_append_drop i l, rawJ_append]
  rw [List.length_append]; omega
theorem rawJ_len_ge (l : List ByteArray) : l.length ≤ (rawJ l).length := by
  induction l with
  | nil => simp
  | cons x r ih => rw [show x :: r = [x] ++ r from rfl, rawJ_append, List.length_append, List.length_append]; simp [rawJ] at ih ⊢; omega
theorem joinJ_take0 (l : List ByteArray) (h : 0 < l.length) : joinJ (l.take 1) = l[0].data.toList := by
  rw [List.take_succ_eq_append_getElem h]
  simp [joinJ_one]
theorem joinJ_take (l : List ByteArray) (i : Nat) (h : i < l.length) (h0 : 0 < i) : joinJ (l.take (i + 1)) = joinJ (l.take i) ++ [10] ++ l[i].data.toList := by
  rw [List.take_succ_eq_append_getElem h, joinJ_append (by intro e; have := congrArg List.length e; rw [List.length_take] at this; simp only [List.length_nil] at this; omega) (by simp), joinJ_one]
  simp
theorem info_u8J : (Tryd.prog.info? 5).map (fun i => (i.zero, i.size, i.bytes)) = some (some (.int .u8 0), 1, 1) := by kernel_rfl
set_option maxRecDepth 100000 in
set_option maxHeartbeats 4000000 in
theorem join_any (A : Option Addr) (n c : Nat) (l : List ByteArray) (w : World) (hn : Hid (n = l.length)) (hl : Hid (SliceAt Rep.str w (under w.heap.size) A c l)) (hb : Hid ((rawJ l).length ≤ 140737488355328)) :
    Calls Tryd.prog 24 #[.slice A n c] w fun e w' => ∃ A n c, e = .returned (.slice A n c) ∧ Hid (Own Rep.byte 5 w' w.heap.size nob (.slice A n c) (joinJ l)) ∧ n ≤ c ∧ c ≤ 9223372036854775807 ∧ Hid (Below w.heap.size w w') := by
  obtain ⟨i0, hi0, hz0, hz1, hz2⟩ := info_parts info_u8J
  have HI0 := Lib.hid hi0
  have HZ0 := Lib.hid hz0
  have HZ1 := Lib.hid hz1
  have HZ2 := Lib.hid hz2
  clear hi0 hz0 hz1 hz2
  have hnc := hl.out.len
  have hcm := hl.out.max
  rw [← hn.out] at hnc
  go_enter Tryd.func24, Tryd.ntmps24
  go_wp2_with fail
  go_loopg [3, 8] n (fun k v3 v8 wr => ∃ (i : Nat) (A3 : Option Addr) (n3 c3 : Nat), i ≤ n ∧ v8 = .int .i64 i ∧ v3 = .slice A3 n3 c3 ∧ k = n - i ∧ n3 ≤ c3 ∧ c3 ≤ 9223372036854775807 ∧ Hid (Own Rep.byte 5 wr w.heap.size nob (.slice A3 n3 c3) (joinJ (l.take i))) ∧ Hid (Below w.heap.size w wr))
  case atStart => exact ⟨0, none, 0, 0, Nat.zero_le _, rfl, rfl, rfl, Nat.le_refl _, by omega, Lib.hid (Own.nil _ _ _ _), Lib.hid (Below.refl _ _)⟩
  case round =>
    obtain ⟨i, A3, n3, c3, hi, rfl, rfl, rfl, hn3, hc3, HO, HB⟩ := hrel
    by_cases hlt : i < n
    · have hil : i < l.length := by have := hn.out; omega
      obtain ⟨g, o, rfl, hg, hx, hxs⟩ := hl.out.texts hil
      have hx := (HB.out.cell (p := ⟨g, o + i, none⟩) hg).trans hx
      have HLE := Lib.hid (rawJ_len_take l i hil)
      have HLM := Lib.hid (rawJ_len_le l (i + 1))
      have HLJ := Lib.hid (joinJ_len (l.take i))
      by_cases h0 : i = 0
      · subst h0
        have HJ : Hid (joinJ (l.take (0 + 1)) = joinJ (l.take 0) ++ l[0].data.toList) := Lib.hid (by rw [joinJ_take0 l hil]; rfl)
        obtain ⟨x, hxe⟩ : ∃ x, x = l[0] := ⟨_, rfl⟩
        rw [← hxe] at HJ hx hxs HLE
        rw [Nat.add_zero] at hx
        clear hxe
        go_wp2_with (at_builtin; refine wpList_append_str _ rfl (.tmp 18) (.tmp 19) 68 9 rfl w.heap.size 5 i0 Tryd.underlying68 Tryd.underlying9 HI0.out HZ0.out HZ1.out HZ2.out (.slice A3 n3 c3) _ rfl HO.out x rfl (by have := HLE.out; have := HLM.out; have := HLJ.out; have := hb.out; omega) HB.out.size ?_; intro v4 w4 hown4 hg4; obtain ⟨A4, n4, c4, rfl, -, hn4, hc4⟩ := hown4.form; have HB4 := Lib.hid (below_own HB.out HO.out hg4 HB.out.size); have HO4 := Lib.hid hown4; clear hown4 hg4)
        go_roundg (n - (0 + 1))
        case measure => omega
        case rel => exact ⟨0 + 1, A4, n4, c4, by omega, rfl, rfl, rfl, hn4, hc4, Lib.hid (by rw [HJ.out]; exact HO4.out), HB4⟩
      · have HJ := Lib.hid (joinJ_take l i hil (by omega))
        have hd0 : decide ((0 : Int) < i) = true := decide_eq_true (by omega)
        obtain ⟨x, hxe⟩ : ∃ x, x = l[i] := ⟨_, rfl⟩
        rw [← hxe] at HJ hx hxs HLE
        have hgl := World.block_lt_of_cell? wr _ hx
        clear hxe
        go_wp2_with (first | (at_builtin; refine wpList_append_bytes _ rfl (.tmp 15) (.tmp 16) 68 rfl w.heap.size 5 stBytes (.slice A3 n3 c3) _ rfl (HO.out.alloc _) _ _ _ _ [10] rfl (SliceAt.newBytes _ _ _ [10] 1 (by simp) (by simp [maxLen]) rfl) rfl (by have := HLE.out; have := HLM.out; have := HLJ.out; have := hb.out; omega) (by have := HB.out.size; simp; omega) ?_; intro v4 w4 hown4 hg4 hat4; obtain ⟨A4, n4, c4, rfl, -, -, -⟩ := hown4.form; have HB4 := Lib.hid (below_own (HB.out.alloc HB.out.size _) (HO.out.alloc _) hg4 (by have := HB.out.size; simp; omega)); have HO4 := Lib.hid hown4; clear hown4 hg4 hat4) | (at_builtin; refine wpList_append_str _ rfl (.tmp 18) (.tmp 19) 68 9 rfl w.heap.size 5 i0 Tryd.underlying68 Tryd.underlying9 HI0.out HZ0.out HZ1.out HZ2.out (.slice A4 n4 c4) _ rfl HO4.out x rfl (by have := HLE.out; have := HLM.out; have := HLJ.out; have := hb.out; rw [List.length_append]; simp only [List.length_cons, List.length_nil]; omega) HB4.out.size ?_; intro v5 w5 hown5 hg5; obtain ⟨A5, n5, c5, rfl, -, hn5, hc5⟩ := hown5.form; have HB5 := Lib.hid (below_own HB4.out HO4.out hg5 HB4.out.size); have HO5 := Lib.hid hown5; clear hown5 hg5))
        go_roundg (n - (i + 1))
        case measure => omega
        case rel => exact ⟨i + 1, A5, n5, c5, by omega, by go_num, rfl, rfl, hn5, hc5, Lib.hid (by rw [HJ.out]; exact HO5.out), HB5⟩
    · obtain rfl : i = n := by omega
      have HT : Hid (l.take i = l) := Lib.hid (by rw [hn.out, List.take_length])
      rw [HT.out] at HO
      clear HT
      go_wp2_with fail
      go_ret
      exact ⟨_, _, _, rfl, HO, hn3, hc3, HB⟩
/-- What stands ahead of a text. -/
def joinP (l : List ByteArray) (i : Nat) : List UInt8 := if i = 0 then [] else joinJ (l.take i) ++ [10]
theorem joinP_step (l : List ByteArray) (i : Nat) (h : i < l.length) : joinJ (l.take (i + 1)) = joinP l i ++ l[i].data.toList := by
  unfold joinP
  split
  · subst_vars; rw [joinJ_take0 l h]; rfl
  · rw [joinJ_take l i h (by omega)]
theorem take_byte (x : ByteArray) (k : Nat) (hk : k < x.size) (L : List UInt8) : L ++ x.data.toList.take (k + 1) = (L ++ x.data.toList.take k) ++ [x[k]] := by
  have h2 : k < x.data.toList.length := by rw [Array.length_toList]; exact hk
  rw [List.take_succ_eq_append_getElem h2, List.append_assoc]
  rfl
set_option maxRecDepth 100000 in
set_option maxHeartbeats 4000000 in
theorem refJoin_any (A : Option Addr) (n c : Nat) (l : List ByteArray) (w : World) (hn : Hid (n = l.length)) (hl : Hid (SliceAt Rep.str w (under w.heap.size) A c l)) (hb : Hid ((rawJ l).length ≤ 140737488355328)) :
    Calls Tryd.prog 26 #[.slice A n c] w fun e w' => ∃ A n c, e = .returned (.slice A n c) ∧ Hid (Own Rep.byte 5 w' w.heap.size nob (.slice A n c) (joinJ l)) ∧ n ≤ c ∧ c ≤ 9223372036854775807 ∧ Hid (Below w.heap.size w w') := by
  have hnc := hl.out.len
  have hcm := hl.out.max
  rw [← hn.out] at hnc
  go_enter Tryd.func26, Tryd.ntmps26
  go_wp2_with fail
  go_loopg [3, 4] n (fun k v3 v4 wr => ∃ (i : Nat) (A3 : Option Addr) (n3 c3 : Nat), i ≤ n ∧ v4 = .int .i64 i ∧ v3 = .slice A3 n3 c3 ∧ k = n - i ∧ n3 ≤ c3 ∧ c3 ≤ 9223372036854775807 ∧ Hid (Own Rep.byte 5 wr w.heap.size nob (.slice A3 n3 c3) (joinJ (l.take i))) ∧ Hid (Below w.heap.size w wr))
  case atStart => exact ⟨0, none, 0, 0, Nat.zero_le _, rfl, rfl, rfl, Nat.le_refl _, by omega, Lib.hid (Own.nil _ _ _ _), Lib.hid (Below.refl _ _)⟩
  case round =>
    obtain ⟨i, A3, n3, c3, hi, rfl, rfl, rfl, hn3, hc3, HO, HB⟩ := hrel
    by_cases hlt : i < n
    · have hil : i < l.length := by have := hn.out; omega
      obtain ⟨g, o, rfl, hg, hx, hxs⟩ := hl.out.texts hil
      have HLE := Lib.hid (rawJ_len_take l i hil)
      have HLM := Lib.hid (rawJ_len_le l (i + 1))
      have HLJ := Lib.hid (joinJ_len (l.take i))
      have HJ := Lib.hid (joinP_step l i hil)
      obtain ⟨x, hxe⟩ : ∃ x, x = l[i] := ⟨_, rfl⟩
      rw [← hxe] at HJ hx hxs HLE
      have HX : Hid (∀ W, Below w.heap.size w W → W.cell? ⟨g, o + i, none⟩ = some (.string x)) := Lib.hid fun W hW => (hW.cell (p := ⟨g, o + i, none⟩) hg).trans hx
      have HLP : Hid ((joinP l i).length + x.size ≤ 140737488355328) := Lib.hid (by
        have := HLE.out; have := HLM.out; have := HLJ.out; have := hb.out
        unfold joinP
        split
        · simp; omega
        · rw [List.length_append]; simp only [List.length_cons, List.length_nil]; omega)
      clear hxe hx
      go_upto_if 13 with fail
      go_cut [3] from 6 to 34 (fun v3 wc => ∃ (A3 : Option Addr) (n3 c3 : Nat), v3 = .slice A3 n3 c3 ∧ n3 ≤ c3 ∧ c3 ≤ 9223372036854775807 ∧ Hid (Own Rep.byte 5 wc w.heap.size nob (.slice A3 n3 c3) (joinP l i)) ∧ Hid (Below w.heap.size w wc))
      case first =>
        by_cases h0 : i = 0
        · subst h0
          go_wp2_with fail
          go_meet
          case rel => exact ⟨A3, n3, c3, rfl, hn3, hc3, Lib.hid (by have := HO.out; rw [List.take_zero, joinJ_nil] at this; exact this), HB⟩
        · have hd0 : decide ((0 : Int) < i) = true := decide_eq_true (by omega)
          have HP : Hid (joinP l i = joinJ (l.take i) ++ [10]) := Lib.hid (by unfold joinP; rw [if_neg h0])
          go_wp2_with (at_builtin; go_must (refine wpList_append_bytes _ rfl (.tmp 14) (.tmp 15) 68 rfl w.heap.size 5 stBytes (.slice A3 n3 c3) _ rfl (HO.out.alloc _) _ _ _ _ [10] rfl (SliceAt.newBytes _ _ _ [10] 1 (by simp) (by simp [maxLen]) rfl) rfl (by have := HLE.out; have := HLM.out; have := HLJ.out; have := hb.out; omega) (by have := HB.out.size; simp; omega) ?_); intro v4 w4 hown4 hg4 hat4; obtain ⟨A4, n4, c4, rfl, -, hn4, hc4⟩ := hown4.form; have HB4 := Lib.hid (below_own (HB.out.alloc HB.out.size _) (HO.out.alloc _) hg4 (by have := HB.out.size; simp; omega)); have HO4 := Lib.hid hown4; clear hown4 hg4 hat4)
          go_meet
          case rel => exact ⟨A4, n4, c4, rfl, hn4, hc4, Lib.hid (by rw [HP.out]; exact HO4.out), HB4⟩
      case rest =>
        clear HO HB hn3 hc3
        obtain ⟨A3, n3, c3, rfl, hn3, hc3, HO, HB⟩ := hcut
        go_wp2_with fail
        obtain ⟨wo, rfl⟩ : ∃ wo : World, wo = wc := ⟨_, rfl⟩
        go_loopg [3, 5] x.size (fun kk v3 v5 wr => ∃ (k : Nat) (A3 : Option Addr) (n3 c3 : Nat), k ≤ x.size ∧ v5 = .int .i64 k ∧ v3 = .slice A3 n3 c3 ∧ kk = x.size - k ∧ n3 ≤ c3 ∧ c3 ≤ 9223372036854775807 ∧ Hid (Own Rep.byte 5 wr w.heap.size nob (.slice A3 n3 c3) (joinP l i ++ x.data.toList.take k)) ∧ Hid (Below w.heap.size w wr))
        case atStart => exact ⟨0, A3, n3, c3, Nat.zero_le _, rfl, rfl, rfl, hn3, hc3, Lib.hid (by rw [List.take_zero, List.append_nil]; exact HO.out), HB⟩
        case round =>
          clear HO HB hn3 hc3
          obtain ⟨k, A3, n3, c3, hk, rfl, rfl, rfl, hn3, hc3, HO, HB⟩ := hrel
          have hx := HX.out wr HB.out
          by_cases hkl : k < x.size
          · have HTB := Lib.hid (take_byte x k hkl (joinP l i))
            have hlk : Hid ((joinP l i ++ x.data.toList.take k).length + 1 ≤ 140737488355328) := Lib.hid (by have := HLP.out; rw [List.length_append, List.length_take, Array.length_toList (xs := x.data)]; have : x.data.size = x.size := rfl; omega)
            go_wp2_with (at_builtin; refine wpList_append_bytes _ rfl (.tmp 26) (.tmp 33) 68 rfl w.heap.size 5 stBytes (.slice A3 n3 c3) _ rfl (HO.out.alloc _) _ _ _ _ [x[k]] rfl (SliceAt.newBytes _ _ _ [x[k]] 1 (by simp) (by simp [maxLen]) rfl) rfl hlk.out (by have := HB.out.size; simp; omega) ?_; intro v4 w4 hown4 hg4 hat4; obtain ⟨A4, n4, c4, rfl, -, hn4, hc4⟩ := hown4.form; have HB4 := Lib.hid (below_own (HB.out.alloc HB.out.size _) (HO.out.alloc _) hg4 (by have := HB.out.size; simp; omega)); have HO4 := Lib.hid hown4; clear hown4 hg4 hat4)
            go_roundg (x.size - (k + 1))
            case measure => omega
            case rel => exact ⟨k + 1, A4, n4, c4, by omega, by go_num, rfl, rfl, hn4, hc4, Lib.hid (by rw [HTB.out]; exact HO4.out), HB4⟩
          · obtain rfl : k = x.size := by omega
            have HT : Hid (joinP l i ++ x.data.toList.take x.size = joinJ (l.take (i + 1))) := Lib.hid (by rw [HJ.out, List.take_of_length_le (by rw [Array.length_toList]; exact Nat.le_refl _)])
            rw [HT.out] at HO
            clear HT
            go_wp2_with fail
            go_roundg (n - (i + 1))
            case measure => omega
            case rel => exact ⟨i + 1, A3, n3, c3, by omega, by go_num, rfl, rfl, hn3, hc3, HO, HB⟩
    · obtain rfl : i = n := by omega
      have HT : Hid (l.take i = l) := Lib.hid (by rw [hn.out, List.take_length])
      rw [HT.out] at HO
      clear HT
      go_wp2_with fail
      go_ret
      exact ⟨_, _, _, rfl, HO, hn3, hc3, HB⟩
set_option maxRecDepth 100000 in
set_option maxHeartbeats 2000000 in
/-- How much texts hold. -/
theorem longJ_any (A : Option Addr) (n c : Nat) (l : List ByteArray) (w : World) (S : Blocks) (hn : Hid (n = l.length)) (hl : Hid (SliceAt Rep.str w S A c l)) (hs : Hid (∀ x ∈ l, x.size ≤ 140737488351232)) :
    Calls Tryd.prog 9 #[.slice A n c] w fun e w' => (∃ b, e = .returned (.bool b) ∧ (b = false → (rawJ l).length ≤ 67108864)) ∧ w = w' := by
  have hnc := hl.out.len
  have hcm := hl.out.max
  rw [← hn.out] at hnc
  go_enter Tryd.func9, Tryd.ntmps9
  go_wp2_with fail
  go_loopg [3, 4] n (fun k v3 v4 wr => ∃ i m : Nat, i ≤ n ∧ v4 = .int .i64 i ∧ v3 = .int .i64 m ∧ k = n - i ∧ m ≤ 140737555460097 ∧ Hid (m = (rawJ (l.take i)).length) ∧ wr = w)
  case atStart => exact ⟨0, 0, Nat.zero_le _, rfl, rfl, rfl, Nat.zero_le _, Lib.hid rfl, rfl⟩
  case round =>
    obtain ⟨i, m, hi, rfl, rfl, rfl, hm, HM, rfl⟩ := hrel
    by_cases hlt : i < n
    · by_cases hmm : m ≤ 67108864
      · have hil : i < l.length := by have := hn.out; omega
        obtain ⟨g, o, rfl, -, hx, hsz⟩ := hl.out.texts hil
        have hsz2 := hs.out l[i] (List.getElem_mem _)
        have HL := Lib.hid (rawJ_len_take l i hil)
        obtain ⟨x, hxe⟩ : ∃ x, x = l[i] := ⟨_, rfl⟩
        rw [← hxe] at HL
        have hx' : wr.cell? ⟨g, o + i, none⟩ = some (.string x) := by rw [hx, hxe]
        have hsz' : x.size ≤ 140737488351232 := by rw [hxe]; exact hsz2
        have hd1 : decide ((m : Int) ≤ 67108864) = true := decide_eq_true (by omega)
        clear hx hsz hsz2 hxe
        go_wp2_with fail
        go_roundg (n - (i + 1))
        case measure => omega
        case rel => exact ⟨i + 1, m + 1 + x.size, by omega, by go_num, by go_num, rfl, by omega, Lib.hid (by rw [HL.out, HM.out]), rfl⟩
      · have hd1 : decide ((m : Int) ≤ 67108864) = false := decide_eq_false (by omega)
        have hd2 : decide ((67108864 : Int) < m) = true := decide_eq_true (by omega)
        go_wp2_with fail
        go_ret
        exact ⟨⟨true, rfl, fun h => by simp at h⟩, rfl⟩
    · obtain rfl : i = n := by omega
      by_cases hmm : m ≤ 67108864
      · have hd2 : decide ((67108864 : Int) < m) = false := decide_eq_false (by omega)
        go_wp2_with fail
        go_ret
        exact ⟨⟨false, rfl, fun _ => by have := HM.out; rw [hn.out, List.take_length] at this; omega⟩, rfl⟩
      · have hd2 : decide ((67108864 : Int) < m) = true := decide_eq_true (by omega)
        go_wp2_with fail
        go_ret
        exact ⟨⟨true, rfl, fun h => by simp at h⟩, rfl⟩
end Go.Proofs.YtmjagjcaepbklaaDoor
