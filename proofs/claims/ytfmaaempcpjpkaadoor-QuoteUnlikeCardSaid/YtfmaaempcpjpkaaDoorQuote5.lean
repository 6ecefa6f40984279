/- Bytes shown as text: the walks of the document's Show and Whole. Condition: at most 2^34 bytes. -/
import Derived.Test.YtfmaaempcpjpkaaDoorQuote3
import Derived.Test.YtfmaaempcpjpkaaDoorQuote4
import Derived.Test.YtfmaaempcpjpkaaDoorQuoteShow
namespace Go.Proofs.YtfmaaempcpjpkaaDoor
open Go.RowKit Go.Deep

theorem below_drewN3 (B : Nat) (w : World) (k : Nat) : Below B w (w.drewN k) := ⟨rfl, rfl, rfl, Nat.le_refl _, fun _ _ => rfl⟩
theorem slTy : SliceType Tryd.prog 23 5 1 1 := stBytes
theorem fairD_at (A : Option Addr) (n c p m : Nat) (l : List UInt8) (S : Blocks) (w : World) (hn : Hid (n = l.length)) (hl : Hid (SliceAt Rep.byte w S A c l)) (hp : p < n) (hnb : n ≤ 281474976710656) (hm : Hid (m = Quote.sz (l.drop p))) (hs : 0 < m) (b : Bool) (hb : Hid (Quote.fair (l.drop p) m = b)) :
    Calls Tryd.prog 56 #[.slice A n c, .int .i64 p, .int .i64 m] w fun e w' => e = .returned (.bool b) ∧ w = w' := by
  have h := hm.out
  subst h
  have h2 := hb.out
  subst h2
  exact fairD_any A n c p l S w hn hl hp hnb hs
theorem size_at (A : Option Addr) (n c p m : Nat) (l : List UInt8) (S : Blocks) (w : World) (hn : Hid (n = l.length)) (hl : Hid (SliceAt Rep.byte w S A c l)) (hp : p < n) (hnb : n ≤ 281474976710656) (hm : Hid (m = Quote.sz (l.drop p))) :
    Calls Tryd.prog 51 #[.slice A n c, .int .i64 p] w fun e w' => e = .returned (.int .i64 m) ∧ w = w' := by
  have h := hm.out
  subst h
  exact (size_any A n c p l S w hn hl hp hnb).mono fun _ _ hh => ⟨hh.1, hh.2.symm⟩
set_option maxRecDepth 100000 in
set_option maxHeartbeats 16000000 in
theorem showD_any (A : Option Addr) (n c : Nat) (l : List UInt8) (w : World) (hn : Hid (n = l.length)) (hl : Hid (SliceAt Rep.byte w (under w.heap.size) A c l)) (hnb : n ≤ 17179869184) :
    Calls Tryd.prog 27 #[.slice A n c] w fun e w' => e = .returned (.string ⟨(Quote.show_ l).toArray⟩) ∧ Hid (Below w.heap.size w w') := by
  have hnc := hl.out.len
  have hcm := hl.out.max
  rw [← hn.out] at hnc
  go_enter Tryd.func27, Tryd.ntmps27
  go_wp2_with fail
  go_loopg [3, 4] n (fun j v3 v4 wr => ∃ (pos : Nat) (A3 : Option Addr) (n3 c3 : Nat) (acc : List UInt8), pos ≤ n ∧ j = n - pos ∧ v4 = .int .i64 pos ∧ v3 = .slice A3 n3 c3 ∧ n3 ≤ c3 ∧ c3 ≤ 9223372036854775807 ∧ Hid (Own Rep.byte 5 wr w.heap.size nob (.slice A3 n3 c3) (34 :: acc)) ∧ Hid (Below w.heap.size w wr) ∧ Hid (Quote.body l = acc ++ Quote.body (l.drop pos)) ∧ Hid (acc.length ≤ 4 * pos))
  case atStart => exact ⟨0, _, 1, 1, [], Nat.zero_le _, rfl, rfl, rfl, Nat.le_refl _, by omega, Lib.hid (Own.newByte _ w _ 34 (Nat.le_refl _)), Lib.hid ((Below.refl _ w).alloc (Nat.le_refl _) _), Lib.hid rfl, Lib.hid (Nat.le_refl _)⟩
  case round =>
    obtain ⟨pos, A3, n3, c3, acc, hpn, rfl, rfl, rfl, hnc3, hcm3, HO, HB, HA, HAL⟩ := hrel
    obtain ⟨wo, rfl⟩ : ∃ wo : World, wo = wr := ⟨_, rfl⟩
    have hsz1 := HB.out.size
    have HL := Lib.hid (hl.out.below HB.out (Nat.le_refl _))
    by_cases hp : pos < n
    · have hpl : pos < l.length := by have := hn.out; omega
      have hpz : (pos : Int) < (n : Int) := by omega
      obtain ⟨m, hm⟩ : ∃ m, m = Quote.sz (l.drop pos) := ⟨_, rfl⟩
      have HM := Lib.hid hm
      have hle := Quote.sz_le (l.drop pos)
      rw [← hm, List.length_drop, ← hn.out] at hle
      have h4 := Quote.sz_four (l.drop pos)
      rw [← hm] at h4
      have hnb2 : n ≤ 281474976710656 := by omega
      have HSZ := Lib.hid (size_at A n c pos m l _ wo hn HL hp hnb2 HM)
      by_cases hgood : 0 < m ∧ Quote.fair (l.drop pos) m = true
      · obtain ⟨hm0, hft⟩ := hgood
        have hm0z : (0 : Int) < (m : Int) := by omega
        have HFA := Lib.hid (fairD_at A n c pos m l _ wo hn HL hp hnb2 HM hm0 true (Lib.hid hft))
        have HA2 : Hid (Quote.body l = (acc ++ (l.drop pos).take m) ++ Quote.body (l.drop (pos + m))) := Lib.hid (by
          have h9 := Quote.body_step (l.drop pos) [] (by rw [← hm]; exact hm0)
          rw [List.append_nil, List.append_nil, ← hm, List.drop_drop] at h9
          rw [HA.out, h9, List.append_assoc]
          unfold Quote.seg
          rw [← hm, if_pos hft])
        have hcutA := run_slice_both slTy (P := Tryd.prog) (w := wo) A n c pos (pos + m) (by omega) (by omega)
        have e9 : ((pos + m : Nat) : Int) = (pos : Int) + (m : Int) := by omega
        rw [e9, show pos + m - pos = m by omega] at hcutA
        have HCUT : Hid (SliceAt Rep.byte wo (under w.heap.size) (cutA A c pos 1) (c - pos) ((l.drop pos).take m)) := Lib.hid (by
          have h9 := HL.out.cutA (i := pos) (j := pos + m) (s := 1) (by omega) (by have := hn.out; omega) rfl
          rw [List.drop_take, show pos + m - pos = m by omega] at h9
          exact h9)
        obtain ⟨AA, hAA⟩ : ∃ AA, AA = cutA A c pos 1 := ⟨_, rfl⟩
        rw [← hAA] at hcutA HCUT
        have HTL : Hid (((l.drop pos).take m).length = m) := Lib.hid (by rw [List.length_take, List.length_drop]; have := hn.out; omega)
        clear hm hft e9 hAA
        have hpm : (pos : Int) + (m : Int) ≤ (n : Int) := by omega
        go_wp2_with (first | (go_at_call 51; refine HSZ.out.mono ?_; rintro e w' ⟨rfl, rfl⟩) | (go_at_call 56; refine HFA.out.mono ?_; rintro e w' ⟨rfl, rfl⟩) | (at_builtin; refine wpList_append_bytes _ rfl (.tmp 23) (.tmp 29) 23 rfl w.heap.size 5 stBytes (.slice A3 n3 c3) (34 :: acc) rfl HO.out (under w.heap.size) AA m (c - pos) ((l.drop pos).take m) rfl HCUT.out HTL.out (by have := HAL.out; simp only [List.length_cons]; omega) hsz1 ?_; intro v4 w4 hown4 hg4 hat4; obtain ⟨A4, n4, c4, rfl, -, hnc4, hcm4⟩ := hown4.form; have HB4 := Lib.hid (below_own HB.out HO.out hg4 hsz1); have HO4 := Lib.hid hown4; clear hown4 hg4 hat4))
        go_roundg (n - (pos + m))
        case measure => omega
        case rel => exact ⟨pos + m, A4, n4, c4, acc ++ (l.drop pos).take m, by omega, rfl, by go_num, rfl, hnc4, hcm4, HO4, HB4, HA2, Lib.hid (by have := HAL.out; have := HTL.out; rw [List.length_append]; omega)⟩
      · obtain ⟨g, o, hAe, hg, hc⟩ := HL.out.byte hpl
        subst hAe
        have hdr : l.drop pos = l[pos] :: l.drop (pos + 1) := List.drop_eq_getElem_cons hpl
        obtain ⟨x, hx⟩ : ∃ x, x = l[pos] := ⟨_, rfl⟩
        rw [← hx] at hc hdr
        clear hx
        have HA2 : Hid (Quote.body l = (acc ++ Quote.esc x) ++ Quote.body (l.drop (pos + 1))) := Lib.hid (by
          rw [HA.out, hdr, Quote.body_esc (by rw [← hdr, ← hm]; exact hgood), List.append_assoc])
        obtain ⟨t, ht⟩ : ∃ t : ByteArray, t = ⟨(Quote.esc x).toArray⟩ := ⟨_, rfl⟩
        have HT : Hid (t.data.toList = Quote.esc x) := Lib.hid (by rw [ht])
        have HTZ : Hid (t.size ≤ 4) := Lib.hid (by rw [ht]; have := esc_len x; simp [ByteArray.size]; omega)
        have HBT := byteText_any x
        rw [← ht] at HBT
        have hxl := x.toNat_lt
        obtain ⟨i0, hi0⟩ : ∃ i0, Tryd.prog.info? 5 = some i0 := ⟨_, rfl⟩
        have HI0 := Lib.hid hi0
        have hz0 := infoU8
        rw [hi0] at hz0
        simp only [Option.map_some, Option.some.injEq, Prod.mk.injEq] at hz0
        obtain ⟨z0, z1, z2⟩ := hz0
        have HZ0 := Lib.hid z0
        have HZ1 := Lib.hid z1
        have HZ2 := Lib.hid z2
        clear hi0 z0 z1 z2 ht hdr
        rcases Nat.eq_zero_or_pos m with hm0 | hm0
        · subst hm0
          clear hm hgood
          go_wp2_with (first | (go_at_call 51; refine HSZ.out.mono ?_; rintro e w' ⟨rfl, rfl⟩) | (go_at_call 57; refine (HBT wo).mono ?_; rintro e w2 ⟨rfl, q, hq⟩; have HB2 : Hid (Below w.heap.size w w2) := Lib.hid (by rw [hq]; exact HB.out.trans (below_drewN3 _ _ _)); have HO2 : Hid (Own Rep.byte 5 w2 w.heap.size nob (.slice A3 n3 c3) (34 :: acc)) := Lib.hid (by rw [hq]; exact HO.out.drewN q); clear hq) | (at_builtin; refine wpList_append_str _ rfl (.tmp 39) (.tmp 40) 23 9 rfl w.heap.size 5 i0 Tryd.underlying23 Tryd.underlying9 HI0.out HZ0.out HZ1.out HZ2.out (.slice A3 n3 c3) (34 :: acc) rfl HO2.out t rfl (by have := HAL.out; have := HTZ.out; simp only [List.length_cons]; omega) HB2.out.size ?_; intro v4 w4 hown4 hg4; obtain ⟨A4, n4, c4, rfl, -, hnc4, hcm4⟩ := hown4.form; have HB4 := Lib.hid (below_own HB2.out HO2.out hg4 HB2.out.size); have HO4 := Lib.hid hown4; clear hown4 hg4))
          go_roundg (n - (pos + 1))
          case measure => omega
          case rel => exact ⟨pos + 1, A4, n4, c4, acc ++ Quote.esc x, by omega, rfl, by go_num, rfl, hnc4, hcm4, Lib.hid (by have h9 := HO4.out; rw [HT.out, List.cons_append] at h9; exact h9), HB4, HA2, Lib.hid (by have := HAL.out; have := esc_len x; rw [List.length_append]; omega)⟩
        · have hff : Quote.fair (l.drop pos) m = false := by
            cases h : Quote.fair (l.drop pos) m with
            | false => rfl
            | true => exact absurd ⟨hm0, h⟩ hgood
          have hm0z : (0 : Int) < (m : Int) := by omega
          have HFA := Lib.hid (fairD_at _ n c pos m l _ wo hn HL hp hnb2 HM hm0 false (Lib.hid hff))
          clear hm hff hgood
          go_wp2_with (first | (go_at_call 51; refine HSZ.out.mono ?_; rintro e w' ⟨rfl, rfl⟩) | (go_at_call 56; refine HFA.out.mono ?_; rintro e w' ⟨rfl, rfl⟩) | (go_at_call 57; refine (HBT wo).mono ?_; rintro e w2 ⟨rfl, q, hq⟩; have HB2 : Hid (Below w.heap.size w w2) := Lib.hid (by rw [hq]; exact HB.out.trans (below_drewN3 _ _ _)); have HO2 : Hid (Own Rep.byte 5 w2 w.heap.size nob (.slice A3 n3 c3) (34 :: acc)) := Lib.hid (by rw [hq]; exact HO.out.drewN q); clear hq) | (at_builtin; refine wpList_append_str _ rfl (.tmp 39) (.tmp 40) 23 9 rfl w.heap.size 5 i0 Tryd.underlying23 Tryd.underlying9 HI0.out HZ0.out HZ1.out HZ2.out (.slice A3 n3 c3) (34 :: acc) rfl HO2.out t rfl (by have := HAL.out; have := HTZ.out; simp only [List.length_cons]; omega) HB2.out.size ?_; intro v4 w4 hown4 hg4; obtain ⟨A4, n4, c4, rfl, -, hnc4, hcm4⟩ := hown4.form; have HB4 := Lib.hid (below_own HB2.out HO2.out hg4 HB2.out.size); have HO4 := Lib.hid hown4; clear hown4 hg4))
          go_roundg (n - (pos + 1))
          case measure => omega
          case rel => exact ⟨pos + 1, A4, n4, c4, acc ++ Quote.esc x, by omega, rfl, by go_num, rfl, hnc4, hcm4, Lib.hid (by have h9 := HO4.out; rw [HT.out, List.cons_append] at h9; exact h9), HB4, HA2, Lib.hid (by have := HAL.out; have := esc_len x; rw [List.length_append]; omega)⟩
    · have hpe : pos = n := by omega
      have HA2 : Hid (Quote.body l = acc) := Lib.hid (by rw [HA.out, List.drop_of_length_le (by have := hn.out; omega)]; exact List.append_nil _)
      have HAL2 : Hid (acc.length ≤ 68719476736) := Lib.hid (by have := HAL.out; omega)
      go_wp2_with (at_builtin; refine wpList_append_bytes _ rfl (.tmp 44) (.tmp 45) 23 rfl w.heap.size 5 stBytes (.slice A3 n3 c3) (34 :: acc) rfl (HO.out.alloc _) _ _ _ _ [34] rfl (SliceAt.newBytes _ _ _ [34] 1 (by simp) (by simp [maxLen]) rfl) rfl (by have := HAL2.out; simp; omega) (by simp; omega) ?_; intro v4 w4 hown4 hg4 hat4; obtain ⟨A4, n4, c4, rfl, hn4, hnc4, hcm4, hs4⟩ := hown4.read; have hcv4 := run_bytes_string (P := Tryd.prog) w4 23 5 9 Tryd.underlying23 Tryd.underlying5 Tryd.underlying9 _ A4 n4 c4 _ hn4.out.symm hs4; have HB4 := Lib.hid (below_own (HB.out.alloc hsz1 _) (HO.out.alloc _) hg4 (by simp; omega)); clear hown4 hg4 hat4 hn4 hs4; obtain ⟨S4, hS4⟩ : ∃ S4 : ByteArray, S4 = ⟨(34 :: acc ++ [34]).toArray⟩ := ⟨_, rfl⟩; rw [← hS4] at hcv4; have HS4 := Lib.hid hS4; clear hS4)
      go_ret
      exact ⟨retS2 (by rw [HS4.out]; unfold Quote.show_; rw [HA2.out]; rfl), HB4⟩
theorem whole_rest (l : List UInt8) (p : Nat) (hp : p < l.length) : Quote.whole (l.drop p) = if Quote.sz (l.drop p) = 0 then false else Quote.whole (l.drop (p + Quote.sz (l.drop p))) := by
  have hdr : l.drop p = l[p] :: l.drop (p + 1) := List.drop_eq_getElem_cons hp
  obtain ⟨L, hL⟩ : ∃ L, L = l.drop p := ⟨_, rfl⟩
  have hle := Quote.sz_le L
  rw [← List.drop_drop, ← hL]
  rw [← hL] at hdr
  rw [hdr]
  by_cases h0 : Quote.sz L = 0
  · rw [← hdr, if_pos h0]
    rw [hdr] at h0 ⊢
    show Quote.wholeGo (_ + 1) _ = _
    simp only [Quote.wholeGo]
    rw [if_pos h0]
  · rw [← hdr, if_neg h0]
    rw [hdr] at h0 hle ⊢
    show Quote.wholeGo (_ + 1) _ = _
    simp only [Quote.wholeGo]
    rw [if_neg h0]
    exact Quote.wholeGo_more _ _ (by rw [List.length_drop, List.length_cons]; omega)
set_option maxRecDepth 100000 in
set_option maxHeartbeats 16000000 in
theorem whole_any (A : Option Addr) (n c : Nat) (l : List UInt8) (S : Blocks) (w : World) (hn : Hid (n = l.length)) (hl : Hid (SliceAt Rep.byte w S A c l)) (hnb : n ≤ 281474976710656) :
    Calls Tryd.prog 23 #[.slice A n c] w fun e w' => e = .returned (.bool (Quote.whole l)) ∧ w = w' := by
  have hnc := hl.out.len
  have hcm := hl.out.max
  rw [← hn.out] at hnc
  go_enter Tryd.func23, Tryd.ntmps23
  go_wp2_with fail
  go_loopg [3] n (fun j v3 wr => ∃ (pos : Nat), pos ≤ n ∧ j = n - pos ∧ v3 = .int .i64 pos ∧ w = wr ∧ Hid (Quote.whole l = Quote.whole (l.drop pos)))
  case atStart => exact ⟨0, Nat.zero_le _, rfl, rfl, rfl, Lib.hid rfl⟩
  case round =>
    obtain ⟨pos, hpn, rfl, rfl, rfl, HW⟩ := hrel
    by_cases hp : pos < n
    · have hpz : (pos : Int) < (n : Int) := by omega
      obtain ⟨m, hm⟩ : ∃ m, m = Quote.sz (l.drop pos) := ⟨_, rfl⟩
      have HM := Lib.hid hm
      have hle := Quote.sz_le (l.drop pos)
      rw [← hm, List.length_drop, ← hn.out] at hle
      have HSZ := Lib.hid (size_at A n c pos m l S w hn hl hp hnb HM)
      have h9 := whole_rest l pos (by have := hn.out; omega)
      rw [← hm] at h9
      clear hm
      rcases Nat.eq_zero_or_pos m with hm0 | hm0
      · subst hm0
        have HW2 : Hid (Quote.whole l = false) := Lib.hid (by rw [HW.out, h9, if_pos rfl])
        clear h9
        go_wp2_with (go_at_call 51; refine HSZ.out.mono ?_; rintro e w' ⟨rfl, rfl⟩)
        go_ret
        exact ⟨retB4 HW2.out.symm, rfl⟩
      · have HW2 : Hid (Quote.whole l = Quote.whole (l.drop (pos + m))) := Lib.hid (by rw [HW.out, h9, if_neg (by omega)])
        have f1 : ((m : Int) == 0) = false := by rw [beq_eq_false_iff_ne]; omega
        have hpm : (pos : Int) + (m : Int) ≤ (n : Int) := by omega
        clear h9
        go_wp2_with (go_at_call 51; refine HSZ.out.mono ?_; rintro e w' ⟨rfl, rfl⟩)
        go_roundg (n - (pos + m))
        case measure => omega
        case rel => exact ⟨pos + m, by omega, rfl, by go_num, rfl, HW2⟩
    · have HW2 : Hid (Quote.whole l = true) := Lib.hid (by rw [HW.out, List.drop_of_length_le (by have := hn.out; omega)]; rfl)
      go_wp2_with fail
      go_ret
      exact ⟨retB4 HW2.out.symm, rfl⟩
end Go.Proofs.YtfmaaempcpjpkaaDoor
