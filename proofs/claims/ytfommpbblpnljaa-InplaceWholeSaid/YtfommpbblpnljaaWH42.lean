/- Texts that lead to the claim, one behind the other: Parts come to a file: the walk of galleylaw30.puts. Condition: the counts are below 2^40. -/
import Derived.Test.YtfommpbblpnljaaWH32
import Derived.Test.YtfommpbblpnljaaWH41
import Derived.Deep.LoopGhost
namespace Go.Proofs.Ytfommpbblpnljaa
open Go.RowKit Go.ChangeShapes Go.WideShapes Go.Deep

theorem copyB30 (A : Option Addr) (n c : Nat) (l : List UInt8) (w : World) (S : Blocks) (hn : n = l.length) (hl : SliceAt Rep.byte w S A c l) (hb : n ≤ 140737488355328) :
    Calls Try.prog 51 #[.slice A n c] w fun e w' => ∃ A' c', e = .returned (.slice A' n c') ∧ n ≤ c' ∧ c' ≤ 9223372036854775807 ∧ Hid (Own Rep.byte 5 w' w.heap.size nob (.slice A' n c') l) ∧ Hid (Below w.heap.size w w') := by
  refine (copyBytes A n c l w S hn hl hb).mono ?_
  rintro e w' ⟨v, rfl, ho, hbw⟩
  obtain ⟨A', n', c', rfl, h1, h2, h3⟩ := ho.form
  obtain rfl : n' = n := by rw [h1.out, hn]
  exact ⟨A', c', rfl, h2, h3, Lib.hid ho, Lib.hid hbw⟩
section
variable {w W W' : World} {F G : Blocks} {d : Nat} {s : Disk.St}
theorem DiskAt.up (h : DiskAt W F d s) (hg : ∀ b, F b → G b) (hl : ∀ b, G b → b < W.heap.size) : DiskAt W G d s := by
  obtain ⟨loc, blk, bn, bo, rowv, pA, pC, hB⟩ := h
  exact (hB.up hg hl).at_
/-- The disk, between two calls. -/
def PutL (w : World) (F : Blocks) (d : Nat) (s : Disk.St) (W : World) : Prop := DiskAt W (grow F w W) d s ∧ Only F w W
theorem PutL.start (h : DiskAt w F d s) : PutL w F d s w := ⟨h.up (fun _ hb => .inl hb) (grow_lt h.lt (Nat.le_refl _)), Only.refl F w⟩
theorem PutL.far (h : PutL w F d s W) (hF : ∀ b, F b → b < w.heap.size) (hb : Below W.heap.size W W') : PutL w F d s W' :=
  ⟨(h.1.far hb).up (fun _ hb' => hb'.imp id fun h' => ⟨h'.1, Nat.lt_of_lt_of_le h'.2 hb.size⟩) (grow_lt hF (Nat.le_trans h.2.size hb.size)), h.2.trans (Only.of_below hb (fun _ => False)) fun _ h => h.elim⟩
theorem PutL.call (h : PutL w F d s W) (hF : ∀ b, F b → b < w.heap.size) {r : Disk.St × Int} {e : Ending} (hc : DiskCall W (grow F w W) d r e W') : e = .returned (.int .i64 r.2) ∧ PutL w F d r.1 W' :=
  ⟨hc.1, hc.2.1.up (fun b hb => grow_grow h.2.size hc.2.2.size b hb) (grow_lt hF (Nat.le_trans h.2.size hc.2.2.size)), h.2.trans hc.2.2 fun _ hx => hx.imp id (·.1)⟩
theorem PutL.call2 (h : PutL w F d s W) (hF : ∀ b, F b → b < w.heap.size) {W1 : World} (hb : Below W.heap.size W W1) {r : Disk.St × Int} {e : Ending} (hc : DiskCall W1 (grow F w W) d r e W') : e = .returned (.int .i64 r.2) ∧ PutL w F d r.1 W' := by
  refine ⟨hc.1, hc.2.1.up (fun b hb' => ?_) (grow_lt hF (Nat.le_trans h.2.size (Nat.le_trans hb.size hc.2.2.size))), (h.2.trans (Only.of_below hb (fun _ => False)) fun _ h => h.elim).trans hc.2.2 fun _ hx => hx.imp id (·.1)⟩
  rcases hb' with (hb' | hb') | hb'
  · exact .inl hb'
  · exact .inr ⟨hb'.1, Nat.lt_of_lt_of_le hb'.2 (Nat.le_trans hb.size hc.2.2.size)⟩
  · exact .inr ⟨Nat.le_trans h.2.size (Nat.le_trans hb.size hb'.1), hb'.2⟩
theorem PutL.post (h : PutL w F d s W) {q : Int} : DiskCall w F d (s, q) (.returned (.int .i64 q)) W := ⟨rfl, h.1, h.2⟩
theorem putGo_step {s : Disk.St} {n : Disk.Nm} {ps : List (List UInt8)} {i : Nat} (hi : i < ps.length) : s.putGo n (ps.drop i) = if (s.append n ps[i]).2 ≠ 0 then s.append n ps[i] else (s.append n ps[i]).1.putGo n (ps.drop (i + 1)) := by
  rw [List.drop_eq_getElem_cons hi]; rfl
set_option maxRecDepth 100000 in
set_option maxHeartbeats 4000000 in
theorem puts_any (n : ByteArray) (hn : n.size ≤ maxLen) (A : Option Addr) (m c : Nat) (ps : List (List UInt8)) (S : Blocks) (hm : Hid (m = ps.length)) (hl : Hid (SliceAt Rep.byte.slice w S A c ps)) (hS : Hid (∀ b, S b → b < w.heap.size ∧ ¬ F b)) (hp : Hid (∀ p ∈ ps, p.length ≤ 1099511627776))
    (HA : Hid (DiskAt w F d s)) (hf : Hid (Disk.Fine s)) {k : Nat} (hk : Hid (Disk.Small k s)) (hkb : k + m + 2 ≤ 1099511627776) :
    Calls Try.prog 55 #[.pointer (some ⟨d, 0, none⟩), .string n, .slice A m c] w (DiskCall w F d (s.puts n.data.toList ps)) := by
  have hmc : m ≤ c := by rw [hm.out]; exact hl.out.len
  have hcm := hl.out.max
  have HF := Lib.hid HA.out.lt
  obtain ⟨N, hN⟩ : ∃ N, N = n.data.toList := ⟨_, rfl⟩
  have HRD := Lib.hid (read_any n hn HA hf)
  have HMK := Lib.hid (make_any n hn HA hf hk (by omega))
  have HMK' : Hid (∀ w1, Below w.heap.size w w1 → Calls Try.prog 28 #[.pointer (some ⟨d, 0, none⟩), .string n] w1 (DiskCall w1 (grow F w w1) d (s.make n.data.toList))) := Lib.hid fun w1 h1 => make_any n hn (Lib.hid ((PutL.start HA.out).far HA.out.lt h1).1) hf hk (by omega)
  rw [← hN] at HRD HMK HMK' ⊢
  have HN := Lib.hid hN
  obtain ⟨q, hq⟩ : ∃ q, q = (s.read N).2 := ⟨_, rfl⟩
  have HQ := Lib.hid hq
  obtain ⟨r3, hr3⟩ : ∃ r, r = s.make N := ⟨_, rfl⟩
  rw [← hr3] at HMK HMK'
  obtain ⟨q3, hq3⟩ : ∃ q, q = r3.2 := ⟨_, rfl⟩
  have HR3 := Lib.hid hr3
  have HQ3 := Lib.hid hq3
  have hf3 : Hid (Disk.Fine r3.1) := Lib.hid (by rw [hr3]; exact Disk.fine_act hf.out (.make N))
  have hk3 : Hid (Disk.Small (k + 1) r3.1) := Lib.hid (by rw [hr3]; exact Disk.small_act hk.out (.make N))
  clear hN hq hr3 hq3
  go_enter Try.func55, Try.ntmps55
  go_wp2_with fail
  refine HRD.out.mono ?_
  rintro e w1 ⟨A1, n1, c1, he1, -, -, -, -, hb1⟩
  rw [← HQ.out] at he1
  subst he1
  have HB1 := Lib.hid hb1
  clear hb1 HRD
  go_upto_if 17 with fail
  go_cut [8] from 16 (fun v8 wc => (∃ q, v8 = .int .i64 q) ∧ ∃ s', Hid (PutL w F d s' wc) ∧ Hid (Disk.Fine s') ∧ Hid (Disk.Small (k + 1) s') ∧ Hid (s.puts N ps = s'.putGo N ps))
  case first =>
    obtain ⟨qb, hqb⟩ : ∃ b, (q == 21) = b := ⟨_, rfl⟩
    have HQB : Hid (qb = true ↔ (s.read N).2 = 21) := Lib.hid (by rw [← hqb, ← HQ.out]; simp)
    cases qb
    rotate_left 1
    · have HQ1 := Lib.hid (HQB.out.1 (by trivial))
      have HC := Lib.hid (HMK'.out w1 HB1.out)
      have HPL := Lib.hid ((PutL.start HA.out).far HF.out HB1.out)
      go_wp2_with fail
      refine HC.out.mono ?_
      rintro e w2 hc
      obtain ⟨he, hpl⟩ := HPL.out.call HF.out hc
      rw [← HQ3.out] at he
      subst he
      have HPL2 := Lib.hid hpl
      clear hc hpl HC
      by_cases hq30 : q3 = 0
      · have hq3b : (q3 != 0) = false := by rw [hq30]; rfl
        go_wp2_with fail
        go_meet
        case rel => exact ⟨⟨_, rfl⟩, _, HPL2, hf3, hk3, Lib.hid (by unfold Disk.St.puts; rw [if_pos HQ1.out, ← HR3.out, if_neg (by rw [← HQ3.out, hq30]; simp)])⟩
      · have hq3b : (q3 != 0) = true := bne_iff_ne.2 hq30
        have HPU : Hid (s.puts N ps = (r3.1, q3)) := Lib.hid (by unfold Disk.St.puts; rw [if_pos HQ1.out, ← HR3.out, if_pos (by rw [← HQ3.out]; exact hq30), HQ3.out])
        go_wp2_with fail
        go_ret
        rw [HPU.out]
        exact HPL2.out.post
    · have HQ1 : Hid ((s.read N).2 ≠ 21) := Lib.hid fun h => by have := HQB.out.2 h; revert this; simp
      go_wp2_with fail
      go_meet
      case rel => exact ⟨⟨_, rfl⟩, s, Lib.hid ((PutL.start HA.out).far HF.out HB1.out), hf, Lib.hid (Disk.small_mono hk.out (by omega)), Lib.hid (by unfold Disk.St.puts; rw [if_neg HQ1.out])⟩
  case rest =>
    obtain ⟨⟨q8, rfl⟩, s1, HPL, hf1, hk1, HPU⟩ := hcut
    go_wp2_with fail
    go_loopg [9] m (fun k' iv wr => ∃ (i : Nat), i ≤ m ∧ iv = .int .i64 i ∧ k' = m - i ∧ ∃ s', Hid (PutL w F d s' wr) ∧ Hid (Disk.Fine s') ∧ Hid (Disk.Small (k + 1 + i) s') ∧ Hid (s.puts N ps = s'.putGo N (ps.drop i)))
    case atStart => exact ⟨0, Nat.zero_le _, rfl, rfl, s1, HPL, hf1, hk1, HPU⟩
    case round =>
      obtain ⟨i, hi, rfl, rfl, s2, HPL2, hf2, hk2, HPU2⟩ := hrel
      rcases Nat.lt_or_ge i m with hlt | hge
      · have hil : i < ps.length := by rw [← hm.out]; exact hlt
        have hX := hl.out.keep (fun _ h => h) (fun b hb => HPL2.out.2.block b (hS.out b hb).1 (hS.out b hb).2)
        obtain ⟨g, o, A', c', rfl, hSg, hc1, hs1⟩ := row_at hX hil
        have HST := Lib.hid (HPU2.out.trans (putGo_step hil))
        obtain ⟨l, hl1⟩ : ∃ l, l = ps[i] := ⟨_, rfl⟩
        rw [← hl1] at hc1 hs1 HST
        have hll : l.length ≤ 1099511627776 := by rw [hl1]; exact hp.out _ (List.getElem_mem hil)
        obtain ⟨ml, hml⟩ : ∃ ml, ml = l.length := ⟨_, rfl⟩
        rw [← hml] at hc1 hll
        have HML := Lib.hid hml
        have HCP := Lib.hid (copyB30 A' ml c' l wr _ hml hs1 (by omega))
        have hi1 : (i : Int) < (m : Int) := by omega
        have hi0 : (0 : Int) ≤ (i : Int) := Int.natCast_nonneg _
        obtain ⟨r4, hr4⟩ : ∃ r, r = s2.append N l := ⟨_, rfl⟩
        rw [← hr4] at HST
        have HR4 := Lib.hid hr4
        clear hX hs1 hl1 hml hr4
        go_wp2_with fail
        refine HCP.out.mono ?_
        rintro e w2 ⟨A2, c2, rfl, hc2, hc2', ho2, hb2⟩
        have HB2 := Lib.hid hb2.out
        obtain ⟨A3, c3, he3, hs3⟩ := ho2.out.slice
        simp only [Value.slice.injEq] at he3
        obtain ⟨rfl, -, rfl⟩ := he3
        have HAP := Lib.hid (append_any n hn A2 ml c2 l _ HML (Lib.hid hs3) (Lib.hid fun b hb => by
          rcases hb with ⟨h1, h2, -⟩ | h
          · refine ⟨h2, fun hg => ?_⟩
            rcases hg with hg | hg
            · have := HF.out b hg; have := HPL2.out.2.size; omega
            · have := hg.2; omega
          · exact h.elim) hll (Lib.hid (HPL2.out.1.far hb2.out)) hf2 hk2 (by omega))
        rw [← HN.out, ← HR4.out] at HAP
        clear hs3 ho2 hb2 HCP
        go_wp2_with fail
        refine HAP.out.mono ?_
        rintro e w3 hc
        obtain ⟨he, hpl⟩ := HPL2.out.call2 HF.out HB2.out hc
        obtain ⟨q4, hq4⟩ : ∃ q, q = r4.2 := ⟨_, rfl⟩
        rw [← hq4] at he
        subst he
        have HQ4 := Lib.hid hq4
        have HPL4 := Lib.hid hpl
        clear hc hpl HAP hq4
        by_cases hq40 : q4 = 0
        · have hq4b : (q4 != 0) = false := by rw [hq40]; rfl
          go_wp2_with fail
          go_roundg (m - (i + 1))
          case measure => omega
          case rel => exact ⟨i + 1, by omega, by go_num, rfl, r4.1, HPL4, Lib.hid (by rw [HR4.out]; exact Disk.fine_act hf2.out (.append N l)), Lib.hid (by rw [HR4.out]; exact Disk.small_act hk2.out (.append N l)), Lib.hid (by rw [HST.out, if_neg (by rw [← HQ4.out, hq40]; simp)])⟩
        · have hq4b : (q4 != 0) = true := bne_iff_ne.2 hq40
          have HPU3 : Hid (s.puts N ps = (r4.1, q4)) := Lib.hid (by rw [HST.out, if_pos (by rw [← HQ4.out]; exact hq40), HQ4.out])
          go_wp2_with fail
          go_ret
          rw [HPU3.out]
          exact HPL4.out.post
      · obtain rfl : i = m := by omega
        have HPU3 : Hid (s.puts N ps = (s2, 0)) := Lib.hid (by rw [HPU2.out, hm.out, List.drop_length]; rfl)
        go_wp2_with fail
        go_ret
        rw [HPU3.out]
        exact HPL2.out.post
end
end Go.Proofs.Ytfommpbblpnljaa
