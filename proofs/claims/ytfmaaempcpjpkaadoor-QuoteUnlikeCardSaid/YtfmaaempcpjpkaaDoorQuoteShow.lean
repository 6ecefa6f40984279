/- Bytes shown as text: the walk of quote.Show. Condition: at most 2^34 bytes. -/
import Derived.Test.YtfmaaempcpjpkaaDoorQuote1
import Derived.Test.YtfmaaempcpjpkaaDoorQuote2
import Derived.Test.YtfmaaempcpjpkaaDoorIter
import Derived.Deep.CutBlock
namespace Go.Proofs.YtfmaaempcpjpkaaDoor
open Go.RowKit Go.Deep

theorem esc_len (b : UInt8) : (Quote.esc b).length ≤ 4 := by unfold Quote.esc; (repeat' split) <;> simp
theorem seg_len (L : List UInt8) : (Quote.seg L).length ≤ 4 * Quote.sz L := by
  unfold Quote.seg
  split
  · rw [List.length_take]; omega
  · have h : ∀ t : List UInt8, (t.flatMap Quote.esc).length ≤ 4 * t.length := by
      intro t
      induction t with
      | nil => simp
      | cons a t ih => have := esc_len a; simp only [List.flatMap_cons, List.length_append, List.length_cons]; omega
    have h1 := h (L.take (Quote.sz L))
    have h2 : (L.take (Quote.sz L)).length ≤ Quote.sz L := by rw [List.length_take]; omega
    omega
theorem str_at (s : ByteArray) (l : List UInt8) (h : s.data.toList = l) (p : Nat) (hp : p < l.length) : ∀ h : p < s.size, s[p]'h = l[p] := by
  subst h
  intro h
  simp [ByteArray.getElem_eq_getElem_data]
theorem ext_list (s : ByteArray) (a b : Nat) : (s.extract a b).data.toList = (s.data.toList.take b).drop a := by
  rw [ByteArray.data_extract, Array.toList_extract, List.extract_eq_take_drop, List.drop_take]
theorem ba_list {x y : ByteArray} (h : x.data.toList = y.data.toList) : x = y := by
  apply ByteArray.ext; exact Array.toList_inj.1 h
theorem Own.newByte (e : TypeId) (w : World) (base : Nat) (b : UInt8) (hb : base ≤ w.heap.size) : Own Rep.byte e (w.alloc (.cells #[.int .u8 b.toNat] e)) base nob (.slice (some ⟨w.heap.size, 0, none⟩) 1 1) [b] :=
  Own.of_bcells ⟨rfl, .inr ⟨w.heap.size, 1, _, rfl, hb, heap_alloc_new w _, Nat.le_refl _, by simp [maxLen], rfl, rfl⟩⟩
theorem retS2 {a b : ByteArray} (h : a = b) : Ending.returned (.string a) = Ending.returned (.string b) := by rw [h]
theorem runeLen_at (r m : Int) (h : Lib.runeLen r = m) (W : World) : Calls Tryd.prog 48 #[.int .i32 r] W fun e w' => e = .returned (.int .i64 m) ∧ W = w' := (Tryd.utf8_RuneLen r W).mono fun _ _ hh => ⟨by rw [hh.1, h], hh.2.symm⟩
set_option maxRecDepth 100000 in
theorem fairP_at (r : Nat) (W : World) : Calls Tryd.prog 50 #[.int .i32 r] W fun e w' => e = .returned (.bool (decide (Quote.fairR r))) ∧ W = w' := (fairP_any r W).mono fun _ _ hh => ⟨hh.1, hh.2.symm⟩
theorem infoU8 : (Tryd.prog.info? 5).map (fun i => (i.zero, i.size, i.bytes)) = some (some (.int .u8 0), 1, 1) := by kernel_rfl
set_option maxRecDepth 100000 in
set_option maxHeartbeats 16000000 in
theorem show_any (A : Option Addr) (n c : Nat) (l : List UInt8) (S : Blocks) (w : World) (hn : Hid (n = l.length)) (hl : Hid (SliceAt Rep.byte w S A c l)) (hnb : n ≤ 17179869184) :
    Calls Tryd.prog 20 #[.slice A n c] w fun e w' => e = .returned (.string ⟨(Quote.show_ l).toArray⟩) ∧ Hid (Below w.heap.size w w') := by
  have hcv := run_bytes_string (P := Tryd.prog) w 23 5 9 Tryd.underlying23 Tryd.underlying5 Tryd.underlying9 S A n c l hn.out.symm hl.out
  obtain ⟨s, hs⟩ : ∃ s : ByteArray, s = ⟨l.toArray⟩ := ⟨_, rfl⟩
  have HSL : Hid (s.data.toList = l) := Lib.hid (by rw [hs])
  have hsz : s.size = n := by rw [hs, hn.out]; simp [ByteArray.size]
  rw [← hs] at hcv
  clear hs
  have kcv : ∀ W, (convert 21 9 (.int .i32 65533)).run Tryd.prog W = .ok (.string ⟨#[239, 191, 189]⟩) W := fun W => by kernel_rfl
  go_enter Tryd.func20, Tryd.ntmps20
  go_wp2_with fail
  go_loopg [4] n (fun j v4 wr => ∃ (pos : Nat) (A3 : Option Addr) (n3 c3 : Nat) (acc : List UInt8), pos ≤ n ∧ j = n - pos ∧ v4 = .slice A3 n3 c3 ∧ n3 ≤ c3 ∧ c3 ≤ 9223372036854775807 ∧ Hid (Own Rep.byte 5 wr w.heap.size nob (.slice A3 n3 c3) (34 :: acc)) ∧ Hid (wr.heap[w.heap.size + 1]? = some (.stringIter s pos)) ∧ Hid (Below w.heap.size w wr) ∧ Hid (Quote.body l = acc ++ Quote.body (l.drop pos)) ∧ Hid (acc.length ≤ 4 * pos))
  case atStart =>
    refine ⟨0, _, 1, 1, [], Nat.zero_le _, rfl, rfl, Nat.le_refl _, by omega, Lib.hid ((Own.newByte _ w _ 34 (Nat.le_refl _)).alloc _), Lib.hid ?_, Lib.hid (((Below.refl _ w).alloc (Nat.le_refl _) _).alloc (by simp) _), Lib.hid rfl, Lib.hid (Nat.le_refl _)⟩
    have := World.iter_heap (w.alloc (.cells #[.int .u8 34] 5)) s 0
    simpa using this
  case round =>
    obtain ⟨pos, A3, n3, c3, acc, hpn, rfl, rfl, hnc3, hcm3, HO, HIT, HB, HA, HAL⟩ := hrel
    obtain ⟨k, hk⟩ : ∃ k, k = w.heap.size + 1 := ⟨_, rfl⟩
    have hsz1 := HB.out.size
    by_cases hp : pos < n
    · have hpl : pos < l.length := by have := hn.out; omega
      have hdr : l.drop pos = l[pos] :: l.drop (pos + 1) := List.drop_eq_getElem_cons hpl
      have hsat := str_at s l HSL.out pos hpl
      obtain ⟨x, hx⟩ : ∃ x, x = l[pos] := ⟨_, rfl⟩
      rw [← hx] at hdr hsat
      clear hx
      have hnx : ∀ ty, (Instr.next (.pointer (some ⟨w.heap.size + 1, 0, none⟩)) true ty).run Tryd.prog wr = _ := fun ty => Lib.run_next_any_at wr (w.heap.size + 1) s pos ty HIT.out (by omega)
      rw [Quote.decode_list, HSL.out] at hnx
      have hdec : Hid (Quote.decL (l.drop pos) = Quote.decL (l.drop pos)) := Lib.hid rfl
      obtain ⟨L, hL⟩ : ∃ L, L = l.drop pos := ⟨_, rfl⟩
      rw [← hL] at hnx hdec hdr HA
      obtain ⟨r, adv, hra⟩ : ∃ r adv, Quote.decL L = (r, adv) := ⟨_, _, rfl⟩
      rw [hra] at hnx
      simp only at hnx
      obtain ⟨W, hW⟩ : ∃ W, W = wr.iterAt (w.heap.size + 1) s (pos + adv) := ⟨_, rfl⟩
      have HO1 : Hid (Own Rep.byte 5 W w.heap.size nob (.slice A3 n3 c3) (34 :: acc)) := Lib.hid (by rw [hW]; exact HO.out.iterAt HIT.out _)
      have HIT1 : Hid (W.heap[w.heap.size + 1]? = some (.stringIter s (pos + adv))) := Lib.hid (by rw [hW]; exact Lib.iterAt_heap wr (w.heap.size + 1) s pos (pos + adv) HIT.out)
      have HB1 : Hid (Below w.heap.size w W) := Lib.hid (by rw [hW]; exact Lib.below_iterAt HB.out (by omega) s _)
      rw [← hW] at hnx
      clear hW HO HIT HB hdec
      have hsz2 := HB1.out.size
      have HLA : Hid (L.length = n - pos) := Lib.hid (by rw [hL, List.length_drop]; have := hn.out; omega)
      by_cases hz : Quote.sz L = 0
      · have h1 := Quote.dec_none L (by rw [hdr]; simp) hz
        rw [hra] at h1
        simp only [Prod.mk.injEq] at h1
        obtain ⟨rfl, rfl⟩ := h1
        have hrl : Lib.runeLen 65533 = 3 := by decide
        have HRL := runeLen_at 65533 3 hrl
        have HA2 : Hid (Quote.body l = (acc ++ Quote.esc x) ++ Quote.body (l.drop (pos + 1))) := Lib.hid (by
          rw [HA.out, hdr, Quote.body_esc (by rw [← hdr, hz]; exact fun e => absurd e.1 (by omega)), List.append_assoc])
        by_cases h3 : pos + 3 ≤ n
        · have hne : s.extract pos (pos + 3) ≠ ⟨#[239, 191, 189]⟩ := by
            intro e
            refine Quote.none_three L hz ?_
            have e2 := congrArg (fun t : ByteArray => t.data.toList) e
            simp only [ext_list, HSL.out] at e2
            rw [hL, ← e2, List.drop_take, show pos + 3 - pos = 3 by omega]
          have hne2 : ((s.extract pos (pos + 3)).toList == [239, 191, 189]) = false := by
            rw [beq_eq_false_iff_ne]
            intro e
            exact hne (ba_list (by rw [← ByteArray.toList_eq, e]))
          go_wp2_with (first | (go_at_call 48; refine (HRL _).mono ?_; rintro e w' ⟨rfl, rfl⟩) | (go_at_call 49; refine (escape_any A3 n3 c3 (34 :: acc) x w.heap.size W HO1 hsz2 (Lib.hid (by have := HAL.out; simp; omega))).mono ?_; rintro e w2 ⟨A4, n4, c4, rfl, hnc4, hcm4, HO4, HG4⟩))
          go_roundg (n - (pos + 1))
          case measure => omega
          case rel => exact ⟨pos + 1, A4, n4, c4, acc ++ Quote.esc x, by omega, rfl, rfl, hnc4, hcm4, HO4, Lib.hid (HO1.out.keepIter HIT1.out HG4.out), Lib.hid (below_own HB1.out HO1.out HG4.out hsz2), HA2, Lib.hid (by have := HAL.out; have := esc_len x; rw [List.length_append]; omega)⟩
        · go_wp2_with (first | (go_at_call 48; refine (HRL _).mono ?_; rintro e w' ⟨rfl, rfl⟩) | (go_at_call 49; refine (escape_any A3 n3 c3 (34 :: acc) x w.heap.size W HO1 hsz2 (Lib.hid (by have := HAL.out; simp; omega))).mono ?_; rintro e w2 ⟨A4, n4, c4, rfl, hnc4, hcm4, HO4, HG4⟩))
          go_roundg (n - (pos + 1))
          case measure => omega
          case rel => exact ⟨pos + 1, A4, n4, c4, acc ++ Quote.esc x, by omega, rfl, rfl, hnc4, hcm4, HO4, Lib.hid (HO1.out.keepIter HIT1.out HG4.out), Lib.hid (below_own HB1.out HO1.out HG4.out hsz2), HA2, Lib.hid (by have := HAL.out; have := esc_len x; rw [List.length_append]; omega)⟩
      · have hz1 : 0 < Quote.sz L := by omega
        have hg := Quote.dec_some L hz1
        have hle := Quote.sz_le L
        rw [HLA.out] at hle
        unfold Quote.Good at hg
        rw [hra] at hg
        obtain ⟨g1, g2, g3, g4⟩ := hg
        simp only at g1 g2 g3 g4
        rw [← g1] at g2 g3 hz1 hle
        have hrr : r ≤ 1114111 ∨ 1114111 < r := by omega
        have HRL := runeLen_at (r : Int) (adv : Int) g2
        have HB2 := Quote.body_step L [] (by omega)
        rw [List.append_nil, List.append_nil, ← g1] at HB2
        have HDD : Hid (L.drop adv = l.drop (pos + adv)) := Lib.hid (by rw [hL, List.drop_drop])
        have HEX : Hid ((s.extract pos (pos + adv)).data.toList = L.take adv) := Lib.hid (by rw [ext_list, HSL.out, hL, List.drop_take, show pos + adv - pos = adv by omega])
        have HSE : Hid ((s.extract pos (pos + adv)).size ≤ 17179869184) := Lib.hid (by rw [ByteArray.size_extract]; omega)
        have hpa : (pos : Int) + (adv : Int) ≤ (n : Int) := by omega
        have ha4 := Quote.sz_four L
        rw [← g1] at ha4
        have HFA := fairP_at r
        clear hrr
        by_cases hf : Quote.fairR r
        · rw [decide_eq_true hf] at HFA
          have hft := g3.1 hf
          have HA2 : Hid (Quote.body l = (acc ++ L.take adv) ++ Quote.body (l.drop (pos + adv))) := Lib.hid (by
            rw [HA.out, HB2, List.append_assoc, HDD.out]
            unfold Quote.seg
            rw [← g1, if_pos hft])
          clear HB2 hft
          obtain ⟨i0, hi0⟩ : ∃ i0, Tryd.prog.info? 5 = some i0 := ⟨_, rfl⟩
          have HI0 := Lib.hid hi0
          have hz0 := infoU8
          rw [hi0] at hz0
          simp only [Option.map_some, Option.some.injEq, Prod.mk.injEq] at hz0
          obtain ⟨z0, z1, z2⟩ := hz0
          have HZ0 := Lib.hid z0
          have HZ1 := Lib.hid z1
          have HZ2 := Lib.hid z2
          clear hi0 z0 z1 z2
          by_cases hr : r = 65533
          · subst hr
            have h3 := g4 rfl
            have ha3 : adv = 3 := by
              have g5 : Lib.runeLen 65533 = 3 := by decide
              have g2' : Lib.runeLen 65533 = (adv : Int) := g2
              omega
            have hyes : ((s.extract pos (pos + adv)).toList == [239, 191, 189]) = true := by
              rw [beq_iff_eq, ByteArray.toList_eq, HEX.out, ha3, h3]
            clear g1 g2 g3 g4 h3 ha3 hf hra
            go_wp2_with (first | (go_at_call 48; refine (HRL _).mono ?_; rintro e w' ⟨rfl, rfl⟩) | (go_at_call 50; refine (HFA _).mono ?_; rintro e w' ⟨rfl, rfl⟩) | (at_builtin; refine wpList_append_str _ rfl (.tmp 48) (.tmp 54) 23 9 rfl w.heap.size 5 i0 Tryd.underlying23 Tryd.underlying9 HI0.out HZ0.out HZ1.out HZ2.out (.slice A3 n3 c3) (34 :: acc) rfl HO1.out (s.extract pos (pos + adv)) rfl (by have := HAL.out; have := HSE.out; simp only [List.length_cons]; omega) hsz2 ?_; intro v4 w4 hown4 hg4; obtain ⟨A4, n4, c4, rfl, -, hnc4, hcm4⟩ := hown4.form; have HB4 := Lib.hid (below_own HB1.out HO1.out hg4 hsz2); have HG4 := Lib.hid hg4; have HO4 := Lib.hid hown4; clear hown4 hg4))
            go_roundg (n - (pos + adv))
            case measure => omega
            case rel => exact ⟨pos + adv, A4, n4, c4, acc ++ L.take adv, by omega, rfl, rfl, hnc4, hcm4, Lib.hid (by have h9 := HO4.out; rw [HEX.out, List.cons_append] at h9; exact h9), Lib.hid (HO1.out.keepIter HIT1.out HG4.out), HB4, HA2, Lib.hid (by have := HAL.out; rw [List.length_append, List.length_take]; omega)⟩
          · have hri : ((r : Int) == 65533) = false := by rw [beq_eq_false_iff_ne]; omega
            clear g1 g2 g3 g4 hf hra hr
            go_wp2_with (first | (go_at_call 48; refine (HRL _).mono ?_; rintro e w' ⟨rfl, rfl⟩) | (go_at_call 50; refine (HFA _).mono ?_; rintro e w' ⟨rfl, rfl⟩) | (at_builtin; refine wpList_append_str _ rfl (.tmp 48) (.tmp 54) 23 9 rfl w.heap.size 5 i0 Tryd.underlying23 Tryd.underlying9 HI0.out HZ0.out HZ1.out HZ2.out (.slice A3 n3 c3) (34 :: acc) rfl HO1.out (s.extract pos (pos + adv)) rfl (by have := HAL.out; have := HSE.out; simp only [List.length_cons]; omega) hsz2 ?_; intro v4 w4 hown4 hg4; obtain ⟨A4, n4, c4, rfl, -, hnc4, hcm4⟩ := hown4.form; have HB4 := Lib.hid (below_own HB1.out HO1.out hg4 hsz2); have HG4 := Lib.hid hg4; have HO4 := Lib.hid hown4; clear hown4 hg4))
            go_roundg (n - (pos + adv))
            case measure => omega
            case rel => exact ⟨pos + adv, A4, n4, c4, acc ++ L.take adv, by omega, rfl, rfl, hnc4, hcm4, Lib.hid (by have h9 := HO4.out; rw [HEX.out, List.cons_append] at h9; exact h9), Lib.hid (HO1.out.keepIter HIT1.out HG4.out), HB4, HA2, Lib.hid (by have := HAL.out; rw [List.length_append, List.length_take]; omega)⟩
        · rw [decide_eq_false hf] at HFA
          have hff : ¬ Quote.fair L adv = true := fun e => hf (g3.2 e)
          have hri : ((r : Int) == 65533) = false := by
            rw [beq_eq_false_iff_ne]
            intro e
            obtain rfl : r = 65533 := by omega
            exact hf (by decide)
          have HA2 : Hid (Quote.body l = (acc ++ (L.take adv).flatMap Quote.esc) ++ Quote.body (l.drop (pos + adv))) := Lib.hid (by
            rw [HA.out, HB2, List.append_assoc, HDD.out]
            unfold Quote.seg
            rw [← g1, if_neg hff])
          clear HB2
          by_cases h1 : 1 < adv
          · obtain ⟨a0, b0, t0, hab, h2, -, -⟩ := Quote.unfair_two (l := L) (by omega) (by rw [← g1]; exact hff)
            have hadv : adv = 2 := by omega
            subst hadv
            have hpl1 : pos + 1 < l.length := by have := hn.out; omega
            have hsat1 := str_at s l HSL.out (pos + 1) hpl1
            obtain ⟨y, hy⟩ : ∃ y, y = l[pos + 1] := ⟨_, rfl⟩
            rw [← hy] at hsat1
            have hdr1 : l.drop (pos + 1) = y :: l.drop (pos + 1 + 1) := by rw [hy]; exact List.drop_eq_getElem_cons hpl1
            have HA3 : Hid (Quote.body l = ((acc ++ Quote.esc x) ++ Quote.esc y) ++ Quote.body (l.drop (pos + 2))) := Lib.hid (by
              rw [HA2.out, hdr, hdr1]
              simp)
            clear g1 g2 g3 g4 hf hff hra h1 hab hy hdr1 h2
            go_wp2_with (first | (go_at_call 48; refine (HRL _).mono ?_; rintro e w' ⟨rfl, rfl⟩) | (go_at_call 50; refine (HFA _).mono ?_; rintro e w' ⟨rfl, rfl⟩))
            refine wp_loop_rounds 3 ?_
            rw [rounds_succ]
            go_wp2_with (go_at_call 49; refine (escape_any A3 n3 c3 (34 :: acc) x w.heap.size W HO1 hsz2 (Lib.hid (by have := HAL.out; have := esc_len x; simp; omega))).mono ?_; rintro e w2 ⟨A4, n4, c4, rfl, hnc4, hcm4, HO4, HG4⟩)
            have HB4 := Lib.hid (below_own HB1.out HO1.out HG4.out hsz2)
            have HIT4 := Lib.hid (HO1.out.keepIter HIT1.out HG4.out)
            have hsz4 := HB4.out.size
            rw [rounds_succ]
            go_wp2_with (go_at_call 49; refine (escape_any A4 n4 c4 (34 :: (acc ++ Quote.esc x)) y w.heap.size w2 HO4 hsz4 (Lib.hid (by have := HAL.out; have := esc_len x; simp; omega))).mono ?_; rintro e w3 ⟨A5, n5, c5, rfl, hnc5, hcm5, HO5, HG5⟩)
            rw [rounds_succ]
            go_wp2_with fail
            go_roundg (n - (pos + 2))
            case measure => omega
            case rel => exact ⟨pos + 2, A5, n5, c5, acc ++ Quote.esc x ++ Quote.esc y, by omega, rfl, rfl, hnc5, hcm5, HO5, Lib.hid (HO4.out.keepIter HIT4.out HG5.out), Lib.hid (below_own HB4.out HO4.out HG5.out hsz4), HA3, Lib.hid (by have := HAL.out; have := esc_len x; have := esc_len y; simp only [List.length_append]; omega)⟩
          · have hadv : adv = 1 := by omega
            subst hadv
            have HA3 : Hid (Quote.body l = (acc ++ Quote.esc x) ++ Quote.body (l.drop (pos + 1))) := Lib.hid (by
              rw [HA2.out, hdr]
              simp)
            clear g1 g2 g3 g4 hf hff hra h1
            go_wp2_with (first | (go_at_call 48; refine (HRL _).mono ?_; rintro e w' ⟨rfl, rfl⟩) | (go_at_call 50; refine (HFA _).mono ?_; rintro e w' ⟨rfl, rfl⟩))
            refine wp_loop_rounds 2 ?_
            rw [rounds_succ]
            go_wp2_with (go_at_call 49; refine (escape_any A3 n3 c3 (34 :: acc) x w.heap.size W HO1 hsz2 (Lib.hid (by have := HAL.out; have := esc_len x; simp; omega))).mono ?_; rintro e w2 ⟨A4, n4, c4, rfl, hnc4, hcm4, HO4, HG4⟩)
            have HB4 := Lib.hid (below_own HB1.out HO1.out HG4.out hsz2)
            have HIT4 := Lib.hid (HO1.out.keepIter HIT1.out HG4.out)
            rw [rounds_succ]
            go_wp2_with fail
            go_roundg (n - (pos + 1))
            case measure => omega
            case rel => exact ⟨pos + 1, A4, n4, c4, acc ++ Quote.esc x, by omega, rfl, rfl, hnc4, hcm4, HO4, HIT4, HB4, HA3, Lib.hid (by have := HAL.out; have := esc_len x; rw [List.length_append]; omega)⟩
    · have hnx : ∀ ty, (Instr.next (.pointer (some ⟨w.heap.size + 1, 0, none⟩)) true ty).run Tryd.prog wr = _ := fun ty => Lib.run_next_end_at wr (w.heap.size + 1) s pos ty HIT.out (by omega)
      have hpe : pos = n := by omega
      have HA2 : Hid (Quote.body l = acc) := Lib.hid (by rw [HA.out, List.drop_of_length_le (by have := hn.out; omega)]; exact List.append_nil _)
      have HAL2 : Hid (acc.length ≤ 68719476736) := Lib.hid (by have := HAL.out; omega)
      go_wp2_with (at_builtin; refine wpList_append_bytes _ rfl (.tmp 68) (.tmp 69) 23 rfl w.heap.size 5 stBytes (.slice A3 n3 c3) (34 :: acc) rfl (HO.out.alloc _) _ _ _ _ [34] rfl (SliceAt.newBytes _ _ _ [34] 1 (by simp) (by simp [maxLen]) rfl) rfl (by have := HAL2.out; simp; omega) (by simp; omega) ?_; intro v4 w4 hown4 hg4 hat4; obtain ⟨A4, n4, c4, rfl, hn4, hnc4, hcm4, hs4⟩ := hown4.read; have hcv4 := run_bytes_string (P := Tryd.prog) w4 23 5 9 Tryd.underlying23 Tryd.underlying5 Tryd.underlying9 _ A4 n4 c4 _ hn4.out.symm hs4; have HB4 := Lib.hid (below_own (HB.out.alloc hsz1 _) (HO.out.alloc _) hg4 (by simp; omega)); clear hown4 hg4 hat4 hn4 hs4; obtain ⟨S4, hS4⟩ : ∃ S4 : ByteArray, S4 = ⟨(34 :: acc ++ [34]).toArray⟩ := ⟨_, rfl⟩; rw [← hS4] at hcv4; have HS4 := Lib.hid hS4; clear hS4)
      go_ret
      exact ⟨retS2 (by rw [HS4.out]; unfold Quote.show_; rw [HA2.out]; rfl), HB4⟩
end Go.Proofs.YtfmaaempcpjpkaaDoor
