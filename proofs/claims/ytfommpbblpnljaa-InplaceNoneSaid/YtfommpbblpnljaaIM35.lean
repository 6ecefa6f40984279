/- Texts that lead to the claim, one behind the other: The walk of (outs.Out).Write. Condition: the counts are below 2^40. -/
import Derived.Test.YtfommpbblpnljaaIM34
namespace Go.Proofs.Ytfommpbblpnljaa
open Go.RowKit Go.ChangeShapes Go.WideShapes Go.Deep

theorem row_at {w : World} {S : Blocks} {A : Option Addr} {c : Nat} {l : List (List UInt8)} (h : SliceAt Rep.byte.slice w S A c l) {i : Nat} (hi : i < l.length) :
    ∃ g o A' c', A = some ⟨g, o, none⟩ ∧ S g ∧ w.cell? ⟨g, o + i, none⟩ = some (.slice A' l[i].length c') ∧ SliceAt Rep.byte w S A' c' l[i] := by
  obtain ⟨g, o, cs, e, hb, hc, A', c', rfl, hs⟩ := h.at_ hi
  have := hc.one
  rw [show Rep.byte.slice.n = 1 from rfl, Nat.mul_one] at this
  exact ⟨g, o, A', c', e, hb, this, hs⟩
theorem flat_len (l : List (List UInt8)) (i : Nat) : (l.take i).flatten.length ≤ l.flatten.length := by
  conv => rhs; rw [← List.take_append_drop i l, List.flatten_append, List.length_append]
  omega
theorem flat_next (l : List (List UInt8)) (i : Nat) (hi : i < l.length) : (l.take (i + 1)).flatten = (l.take i).flatten ++ l[i] := by
  rw [List.take_add_one, List.getElem?_eq_getElem hi, List.flatten_append]; simp
section
variable {w w' : World} {F X G : Blocks} {d : Nat} {s : Disk.St} {t : Disk.Nm} {o dB tB : Nat} {ou : Disk.Ou} {A : Option Addr} {c : Nat} {cnt : Int}
theorem OutB.stay (h : OutB w F X G d s t o dB tB ou A c cnt) {w1 : World} (hg : w.grownBy w1 (Value.slice A ou.held.length c).ownBlock) : w1.heap[o]? = w.heap[o]? :=
  hg.block o (h.ub o h.Xo).1 fun e => by
    obtain ⟨cur, hc⟩ := h.held.content e.symm
    rw [h.out] at hc
    injection hc with hc
    injection hc with _ e2
    exact absurd e2 (by decide)
/-- What the loop of Write keeps. -/
def WrLoop (w : World) (F G : Blocks) (d : Nat) (s : Disk.St) (t : Disk.Nm) (o dB tB : Nat) (held : List UInt8) (wr : World) : Prop :=
  ∃ X A c cnt, OutB wr F X (grow G w wr) d s t o dB tB ⟨held, 0⟩ A c cnt ∧ Only G w wr
set_option maxRecDepth 100000 in
set_option maxHeartbeats 1000000 in
theorem write_any (HS : Hid (OutS w G d s t o dB tB ou)) (hf : Hid (Disk.Fine s)) {k : Nat} (hk : Hid (Disk.Small k s)) (hkb : k ≤ 1099511627776) (ht : t.length ≤ maxLen) (B : Option Addr) (n bc : Nat) (ps : List (List UInt8)) (S : Blocks)
    (hn : Hid (n = ps.length)) (hl : Hid (SliceAt Rep.byte.slice w S B bc ps)) (hS : Hid (∀ b, S b → b < w.heap.size ∧ ¬ G b)) (hlen : ou.held.length + ps.flatten.length ≤ 1099511627776) :
    Calls Try.prog 42 #[.pointer (some ⟨o, 0, none⟩), .slice B n bc] w (OutCall w G d t o dB tB (s.ouWrite t ou ps.flatten)) := by
  obtain ⟨F, X, A, c, cnt, H⟩ := HS.out
  have HE := Lib.hid (err_any (Lib.hid H))
  have HO := Lib.hid H
  obtain ⟨er, her⟩ : ∃ er, er = ou.err := ⟨_, rfl⟩
  rw [← her] at HE
  have HER := Lib.hid her
  have HGL := Lib.hid H.lt
  clear H her
  have hnc : n ≤ bc := by rw [hn.out]; exact hl.out.len
  have hcm := hl.out.max
  by_cases h0 : er = 0
  · subst h0
    have HB0 : Hid (OutB w F X G d s t o dB tB ⟨ou.held, 0⟩ A c cnt) := Lib.hid (by have h1 := HO.out; rw [show ou = ⟨ou.held, 0⟩ by rw [HER.out]] at h1; exact h1)
    have HW : Hid (s.ouWrite t ou ps.flatten = if (ou.held ++ ps.flatten).length < 64 then (s, ⟨ou.held ++ ps.flatten, 0⟩, 0) else s.handOn t ⟨ou.held ++ ps.flatten, 0⟩) := Lib.hid (by unfold Disk.St.ouWrite; rw [if_neg (by rw [← HER.out]; simp), ← HER.out])
    have hne : ((n : Int) != (n : Int)) = false := by simp
    go_enter Try.func42, Try.ntmps42
    go_wp2_with fail
    refine HE.out.mono ?_
    rintro e w1 ⟨rfl, rfl⟩
    go_wp2_with fail
    go_loopg [15] n (fun k iv wr => ∃ (i : Nat), i ≤ n ∧ iv = .int .i64 i ∧ k = n - i ∧ Hid (WrLoop w F G d s t o dB tB (ou.held ++ (ps.take i).flatten) wr))
    case atStart => exact ⟨0, Nat.zero_le _, rfl, rfl, Lib.hid ⟨X, A, c, cnt, by simpa using HB0.out.far (Below.refl _ _), Only.of_below (Below.refl _ _) G⟩⟩
    case round =>
      obtain ⟨i, hi, rfl, rfl, HL⟩ := hrel
      obtain ⟨X1, A1, c1, cnt1, h1, ho1⟩ := HL.out
      rcases Nat.lt_or_ge i n with hlt | hge
      · have hil : i < ps.length := by rw [← hn.out]; exact hlt
        have hX := hl.out.keep (fun _ h => h) (fun b hb => ho1.block b (hS.out b hb).1 (hS.out b hb).2)
        obtain ⟨g, o', A', c', rfl, -, hc1, hs1⟩ := row_at hX hil
        have hi1 : (i : Int) < (n : Int) := by omega
        have hi0 : (0 : Int) ≤ (i : Int) := Int.natCast_nonneg _
        obtain ⟨l, hl1⟩ : ∃ l, l = ps[i] := ⟨_, rfl⟩
        rw [← hl1] at hc1 hs1
        obtain ⟨m, hm⟩ : ∃ m, m = l.length := ⟨_, rfl⟩
        rw [← hm] at hc1
        obtain ⟨held, hh⟩ : ∃ held, held = ou.held ++ (ps.take i).flatten := ⟨_, rfl⟩
        rw [← hh] at h1
        have hb1 : held.length + m ≤ 140737488355328 := by
          have h2 := flat_len ps (i + 1)
          rw [flat_next ps i hil, List.length_append, ← hl1, ← hm] at h2
          rw [hh, List.length_append]; omega
        have H1 := Lib.hid h1
        have HO1 := Lib.hid ho1
        have HS1 := Lib.hid hs1
        have HM := Lib.hid hm
        have k2 : wr.cell? ⟨o, 2, none⟩ = some (.slice A1 held.length c1) := (cell_of_row wr o 2 _ _ (0, 0) h1.out).trans rfl
        have HN : Hid (ou.held ++ (ps.take (i + 1)).flatten = held ++ l) := Lib.hid (by rw [flat_next ps i hil, hh, List.append_assoc, hl1])
        clear h1 ho1 hs1 hm hX hl1 hh hil HE HO HB0 HW HL
        go_wp2_with (at_builtin; refine wpList_append_bytes _ rfl (.tmp 23) (.tmp 24) 32 rfl 0 5 stBytes (.slice A1 held.length c1) held rfl H1.out.held S A' m c' l rfl HS1.out HM.out.symm hb1 (Nat.zero_le _) ?_; intro v' w2 hown hg hat; obtain ⟨A2, n2, c2, rfl, -, -, -⟩ := hown.form; have HOWN := Lib.hid hown; have HG2 := Lib.hid hg; have HAT := Lib.hid hat; clear hown hg hat; have k5 : w2.cell? ⟨o, 2, none⟩ = some (.slice A1 held.length c1) := (cell_of_row w2 o 2 _ _ (0, 0) ((H1.out.stay HG2.out).trans H1.out.out)).trans rfl; have kf : w2.frozen? ⟨o, 2, none⟩ = false := by simp [World.frozen?, H1.out.stay HG2.out, H1.out.out])
        go_roundg (n - (i + 1))
        · obtain ⟨h3, h4⟩ := H1.out.grown (l := l) HOWN.out HG2.out HAT.out
          have h5 := h3.up (fun b hb => grow_grow HO1.out.size h4.size b hb) (grow_lt HGL.out (Nat.le_trans HO1.out.size h4.size))
          refine ⟨i + 1, by omega, by go_num, rfl, Lib.hid ?_⟩
          rw [HN.out]
          exact ⟨_, _, _, _, h5, HO1.out.trans h4 fun x hx => hx.imp id (·.1)⟩
        · omega
      · obtain rfl : i = n := by omega
        have hfl : ps.take i = ps := by rw [hn.out]; exact List.take_length
        rw [hfl] at h1
        obtain ⟨held, hh⟩ : ∃ held, held = ou.held ++ ps.flatten := ⟨_, rfl⟩
        rw [← hh] at h1 HW
        have hlen2 : held.length ≤ 1099511627776 := by rw [hh, List.length_append]; omega
        have H1 := Lib.hid h1
        have HO1 := Lib.hid ho1
        have hbd : Below wr.heap.size wr wr.drew := (Below.refl _ _).drew
        have h2 := h1.far hbd
        have h3 := h2.up (G' := grow G w wr.drew) (fun b hb => grow_grow ho1.size hbd.size b hb) (grow_lt HGL.out (Nat.le_trans ho1.size hbd.size))
        have ho2 : Only G w wr.drew := ho1.trans (Only.of_below hbd G) fun x hx => .inl hx
        have H2 := Lib.hid h3
        have HO2 := Lib.hid ho2
        have HH := Lib.hid (handOn_any H2 hf hk hkb ht hlen2)
        have k0 : wr.cell? ⟨o, 0, none⟩ = some (.int .i64 64) := (cell_of_row wr o 0 _ _ (0, 0) h1.out).trans rfl
        have k2 : wr.cell? ⟨o, 2, none⟩ = some (.slice A1 held.length c1) := (cell_of_row wr o 2 _ _ (0, 0) h1.out).trans rfl
        clear h1 ho1 HE HO HB0 HL hh h2 h3 ho2 hbd
        rcases Nat.lt_or_ge held.length 64 with hlt | hge
        · have HV := Lib.hid (HW.out.trans (if_pos hlt))
          have hb : ((held.length : Int) < 64) := by omega
          go_upto_region 9 with fail
          go_region
          go_wp2_with fail
          go_ret
          rw [HV.out]
          exact ⟨rfl, H2.out.at_, HO2.out⟩
        · have HV := Lib.hid (HW.out.trans (if_neg (by omega)))
          have hb : ¬ ((held.length : Int) < 64) := by omega
          go_upto_region 9 with fail
          go_region
          go_wp2_with fail
          refine HH.out.mono ?_
          rintro e w2 ⟨rfl, h4, h5⟩
          have H4 := Lib.hid h4
          have H5 := Lib.hid h5
          clear h4 h5
          go_wp2_with fail
          go_ret
          obtain ⟨F4, X4, A4, c4, cnt4, h6⟩ := H4.out
          rw [HV.out]
          exact ⟨rfl, (h6.up (fun b hb => grow_grow HO2.out.size H5.out.size b hb) (grow_lt HGL.out (Nat.le_trans HO2.out.size H5.out.size))).at_, HO2.out.trans H5.out fun x hx => hx.imp id (·.1)⟩
  · have hb : (er != 0) = true := bne_iff_ne.2 h0
    have hfl : s.ouWrite t ou ps.flatten = (s, ou, er) := by unfold Disk.St.ouWrite; rw [if_pos (by rw [← HER.out]; exact h0), ← HER.out]
    rw [hfl]
    clear hfl h0
    go_enter Try.func42, Try.ntmps42
    go_wp2_with fail
    refine HE.out.mono ?_
    rintro e w1 ⟨rfl, rfl⟩
    go_wp2_with fail
    go_ret
    exact ⟨rfl, (HO.out.far (Below.refl _ _)).at_, Only.of_below (Below.refl _ _) G⟩
end
end Go.Proofs.Ytfommpbblpnljaa
