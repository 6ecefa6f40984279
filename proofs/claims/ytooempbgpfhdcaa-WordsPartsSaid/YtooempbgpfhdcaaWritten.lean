/- Marks: the walks of written and of right. Condition: room. -/
import Derived.Test.YtooempbgpfhdcaaWorks19
import Derived.Test.YtooempbgpfhdcaaStBytes
namespace Go.Proofs.Ytooempbgpfhdcaa
open Go.RowKit Go.ChangeShapes Go.WideShapes Go.Deep

theorem writ_append (a b : List Words.Mk) : Words.writ (a ++ b) = Words.writ a ++ Words.writ b := by
  induction a with
  | nil => rfl
  | cons x r ih => simp [Words.writ, ih]
theorem writ_take (l : List Words.Mk) {i : Nat} (hi : i < l.length) : Words.writ (l.take (i + 1)) = Words.writ (l.take i) ++ (if l[i].2 then [92, l[i].1] else [l[i].1]) := by
  rw [List.take_succ_eq_append_getElem hi, writ_append]
  simp [Words.writ]
theorem writ_len : ∀ l : List Words.Mk, (Words.writ l).length ≤ 2 * l.length
  | [] => by simp [Words.writ]
  | x :: r => by
    have := writ_len r
    simp only [Words.writ, List.length_append, List.length_cons]
    split <;> simp <;> omega
theorem byteNew' (w : World) (x : Int) (c : UInt8) (hx : x = c.toNat) (B : Nat) (hB : w.heap.size < B) : SliceAt Rep.byte (w.alloc (.cells #[.int .u8 x] 5)) (under B) (some ⟨w.heap.size, 0, none⟩) 1 [c] := by
  subst hx
  exact (SliceAt.newBytes w 5 _ [c] 1 (by simp) (by simp [maxLen]) rfl).up fun b hb => Nat.lt_of_lt_of_le hb hB
theorem Own.slot {α : Type} {r : Rep α} {e : TypeId} {w : World} {base : Nat} {A : Option Addr} {n c : Nat} {l : List α} (h : Own r e w base nob (.slice A n c) l) : SliceAt r w (under w.heap.size) A c l := by
  obtain ⟨A', n', c', e, hn, h1, h2, hs⟩ := h.read
  simp only [Value.slice.injEq] at e
  obtain ⟨rfl, rfl, rfl⟩ := e
  exact hs.up (btw_under (Nat.le_refl _))
theorem below_own2 {B : Nat} {a w w' : World} {α : Type} {r : Rep α} {e : TypeId} {base : Nat} {S : Blocks} {v : Value} {l : List α} (h : Below B a w) (ho : Own r e w base S v l) (hbase : B ≤ base) (hg : w.grownBy w' v.ownBlock) (hB : B ≤ w.heap.size) : Below B a w' :=
  h.grown hg hB fun k hk => by obtain ⟨xs, ho, _⟩ := ho; exact Nat.le_trans hbase (ho.lt k hk).1
set_option maxRecDepth 100000 in
set_option maxHeartbeats 4000000 in
theorem written_any (A : Option Addr) (n c : Nat) (l : List Words.Mk) (w : World) (hn : Hid (n = l.length)) (hl : Hid (SliceAt Rep.mark w (under w.heap.size) A c l)) (hb : n ≤ 1099511627776) :
    Calls Try.prog 7 #[.slice A n c] w fun e w' => ∃ v, e = .returned v ∧ Hid (Own Rep.byte 5 w' w.heap.size nob v (Words.writ l)) ∧ Hid (Below w.heap.size w w') := by
  have hnc := hl.out.len
  have hcm := hl.out.max
  rw [← hn.out] at hnc
  go_enter Try.func7, Try.ntmps7
  go_wp2_with fail
  go_loopg [3, 4] n (fun j v3 v4 wr => ∃ (i : Nat) (A3 : Option Addr) (n3 c3 : Nat), i ≤ n ∧ j = n - i ∧ v4 = .int .i64 i ∧ v3 = .slice A3 n3 c3 ∧ Hid (Own Rep.byte 5 wr w.heap.size nob (.slice A3 n3 c3) (Words.writ (l.take i))) ∧ Hid (Below w.heap.size w wr))
  case atStart => exact ⟨0, none, 0, 0, Nat.zero_le _, rfl, rfl, rfl, Lib.hid (Own.nil _ _ _ _), Lib.hid (Below.refl _ _)⟩
  case round =>
    obtain ⟨i, A3, n3, c3, hi, rfl, rfl, rfl, HO, HB⟩ := hrel
    by_cases hlt : i < n
    · have hil : i < l.length := by have := hn.out; omega
      obtain ⟨g, o, rfl, hg, hc1, hc2⟩ := hl.out.marks hil
      have HWT := Lib.hid (writ_take l hil)
      have HLN : Hid ((Words.writ (l.take i)).length ≤ 2199023255552) := Lib.hid (by have := writ_len (l.take i); rw [List.length_take] at this; omega)
      obtain ⟨x, hx⟩ : ∃ x, x = l[i] := ⟨_, rfl⟩
      rw [← hx] at hc1 hc2 HWT
      obtain ⟨b, p⟩ := x
      simp only at hc1 hc2 HWT
      have HC : Hid (∀ W, Below w.heap.size w W → W.cell? ⟨g, o + i * 2, none⟩ = some (.int .u8 b.toNat)) := Lib.hid fun W hW => (hW.cell (p := ⟨g, o + i * 2, none⟩) hg).trans hc1
      have hc2 : wr.cell? ⟨g, o + i * 2 + 1, none⟩ = some (.bool p) := (HB.out.cell (p := ⟨g, o + i * 2 + 1, none⟩) hg).trans hc2
      have hii : (i : Int) < (n : Int) := by omega
      have hi0 : (0 : Int) ≤ (i : Int) := Int.natCast_nonneg _
      clear hx hc1
      cases p with
      | false =>
        have hc1 := HC.out wr HB.out
        go_wp2_with (at_builtin; refine wpList_append_Own _ rfl (.tmp 19) (.tmp 25) 22 rfl Rep.byte w.heap.size 5 1 stBytes nob (.slice A3 n3 c3) _ rfl (HO.out.alloc _) (under (wr.heap.size + 1)) _ _ [b] rfl (byteNew' wr _ b rfl _ (Nat.lt_succ_self _)) nob (fun _ h => h.elim) (fun _ h => h) (fun _ _ h => h) (by have := HLN.out; simp only [List.length_cons, List.length_nil, List.length_append]; omega) (by have := HLN.out; simp only [List.length_cons, List.length_nil, List.length_append]; omega) (by have := HB.out.size; simp; omega) ?_; intro v4 w4 hown4 hg4 hat4; obtain ⟨A4, n4, c4, rfl, -, -, -⟩ := hown4.form; have HB4 := Lib.hid (below_own (HB.out.alloc HB.out.size _) (HO.out.alloc _) hg4 (by have := HB.out.size; simp; omega)); have HO4 := Lib.hid hown4; clear hown4 hg4 hat4)
        go_roundg (n - (i + 1))
        case measure => omega
        case rel => exact ⟨i + 1, A4, n4, c4, by omega, rfl, by go_num, rfl, Lib.hid (by rw [HWT.out]; exact HO4.out), HB4⟩
      | true =>
        go_upto_region 7 with (at_builtin; refine wpList_append_Own _ rfl (.tmp 16) (.tmp 17) 22 rfl Rep.byte w.heap.size 5 1 stBytes nob (.slice A3 n3 c3) _ rfl (HO.out.alloc _) (under (wr.heap.size + 1)) _ _ [92] rfl (byteNew' wr _ 92 rfl _ (Nat.lt_succ_self _)) nob (fun _ h => h.elim) (fun _ h => h) (fun _ _ h => h) (by have := HLN.out; simp only [List.length_cons, List.length_nil, List.length_append]; omega) (by have := HLN.out; simp only [List.length_cons, List.length_nil, List.length_append]; omega) (by have := HB.out.size; simp; omega) ?_; intro v4 w4 hown4 hg4 hat4; obtain ⟨A4, n4, c4, rfl, -, -, -⟩ := hown4.form; have HB4 := Lib.hid (below_own (HB.out.alloc HB.out.size _) (HO.out.alloc _) hg4 (by have := HB.out.size; simp; omega)); have HO4 := Lib.hid hown4; clear hown4 hg4 hat4; have hc1 := HC.out w4 HB4.out)
        go_wp2_with (at_builtin; refine wpList_append_Own _ rfl (.tmp 19) (.tmp 25) 22 rfl Rep.byte w.heap.size 5 1 stBytes nob (.slice A4 n4 c4) _ rfl (HO4.out.alloc _) (under (w4.heap.size + 1)) _ _ [b] rfl (byteNew' w4 _ b rfl _ (Nat.lt_succ_self _)) nob (fun _ h => h.elim) (fun _ h => h) (fun _ _ h => h) (by have := HLN.out; simp only [List.length_cons, List.length_nil, List.length_append]; omega) (by have := HLN.out; simp only [List.length_cons, List.length_nil, List.length_append]; omega) (by have := HB4.out.size; simp; omega) ?_; intro v4 w5 hown4 hg4 hat4; obtain ⟨A5, n5, c5, rfl, -, -, -⟩ := hown4.form; have HB5 := Lib.hid (below_own (HB4.out.alloc HB4.out.size _) (HO4.out.alloc _) hg4 (by have := HB4.out.size; simp; omega)); have HO5 := Lib.hid hown4; clear hown4 hg4 hat4)
        go_roundg (n - (i + 1))
        case measure => omega
        case rel => exact ⟨i + 1, A5, n5, c5, by omega, rfl, by go_num, rfl, Lib.hid (by rw [HWT.out]; have := HO5.out; rw [List.append_assoc] at this; exact this), HB5⟩
    · obtain rfl : i = n := by omega
      have HF : Hid (Words.writ (l.take i) = Words.writ l) := Lib.hid (by rw [List.take_of_length_le (by have := hn.out; omega)])
      go_wp2_with fail
      go_ret
      exact ⟨_, rfl, Lib.hid (by rw [← HF.out]; exact HO.out), HB⟩
end Go.Proofs.Ytooempbgpfhdcaa
