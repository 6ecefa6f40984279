/- Texts that lead to the claim, one behind the other: A call that is refused changes nothing: the walk of galleylaw03.DiskRefused. Condition: what is handed in lies within reach. -/
import Derived.Test.YtignnohjggjkoaaRa44
import Derived.Test.YtignnohjggjkoaaRa45
namespace Go.Proofs.Ytignnohjggjkoaa
open Go.RowKit Go.ChangeShapes Go.WideShapes Go.Deep

section
variable {w : World}
set_option maxRecDepth 100000 in
set_option maxHeartbeats 8000000 in
theorem diskRefused_any (room : Int) (fs : List Disk.Fin_) (ops : List OpV) (A B : Option Addr) (n c m mc : Nat) (hn : Hid (n = fs.length)) (hm : Hid (m = ops.length)) (h1 : Hid (SliceAt Rep.fin w (under w.heap.size) A c fs)) (h2 : Hid (SliceAt Rep.op w (under w.heap.size) B mc ops))
    (hf : Hid (∀ f ∈ fs, finReach f)) (ho : Hid (∀ o ∈ ops, opReach o)) (hnb : n ≤ 281474976710656) (hmb : m ≤ 281474976710656) :
    Calls Try.prog 5 #[.int .i64 room, .slice A n c, .slice B m mc] w fun e w' => e = .returned (.bool true) ∧ Below w.heap.size w w' := by
  have hmd : m ≤ mc := by rw [hm.out]; exact h2.out.len
  have hdm := h2.out.max
  have H1 := Lib.hid (beyond_any (w := w) fs ops A B n c m mc (under w.heap.size) hn hm h1 h2 (Lib.hid fun _ h => h) hf ho hnb hmb)
  go_enter Try.func5, Try.ntmps5
  go_wp2_with fail
  refine H1.out.mono ?_
  rintro e w1 ⟨b, rfl, hw, hb1⟩
  have HB1 := Lib.hid hb1
  cases b
  case true =>
    clear hb1 hw
    go_wp2_with fail
    go_ret
    exact ⟨rfl, HB1.out⟩
  have HW := Lib.hid (hw rfl)
  clear hb1 hw H1
  by_cases hbig : 10000 < m
  · go_wp2_with fail
    go_ret
    exact ⟨rfl, HB1.out⟩
  have hmb2 : m ≤ 10000 := by omega
  go_wp2_with fail
  refine lives_any.mono ?_
  rintro e w2 ⟨rfl, hb2⟩
  have HB2 : Hid (Below w.heap.size w w2) := Lib.hid (HB1.out.trans (hb2.mono HB1.out.size))
  have HFT := Lib.hid (fit_any (w := w2) room A n c fs (under w.heap.size) hn (Lib.hid (h1.out.keep (fun _ h => h) (Same.of_below HB2.out fun _ h => h))) (Lib.hid fun b hb => Nat.lt_of_lt_of_le hb HB2.out.size) (Lib.hid fun f hf' => by have := (HW.out.file hf').1; omega))
  clear hb2
  go_wp2_with fail
  refine HFT.out.mono ?_
  rintro e w3 (⟨-, rfl, hb3⟩ | ⟨he, d, F, rfl, hk⟩)
  · have HB3 : Hid (Below w.heap.size w w3) := Lib.hid (HB2.out.trans (hb3.mono HB2.out.size))
    clear hb3
    go_wp2_with fail
    refine wp_loop_rounds 1 ?_
    rw [rounds_succ]
    by_cases hm0 : 0 < m
    · go_wp2_with fail
      go_ret
      exact ⟨rfl, HB3.out⟩
    · obtain rfl : m = 0 := by omega
      go_wp2_with fail
      go_ret
      exact ⟨rfl, HB3.out⟩
  have HK := Lib.hid hk
  have HF0 := Lib.hid (Disk.fine_from he)
  have HS0 : Hid (Disk.Small 0 (Disk.fromSt room fs)) := Lib.hid (Disk.small_from room fs)
  clear hk he HFT
  go_wp2_with fail
  go_loopg [10] m (fun q i wr => ∃ (j : Nat) (F : Blocks) (s : Disk.St), q = m - j ∧ j ≤ m ∧ i = .int .i64 j ∧ Hid (Kd w2 wr F d s) ∧ Hid (Disk.Fine s) ∧ Hid (Disk.Small j s))
  case atStart => exact ⟨0, F, _, rfl, by omega, rfl, HK, HF0, HS0⟩
  case round =>
    obtain ⟨j, F, s, rfl, hj, rfl, HK, HF, HS⟩ := hrel
    by_cases hjm : j < m
    · have hjl : j < ops.length := by rw [← hm.out]; exact hjm
      obtain ⟨g, o, cs, rfl, hg, hcs, P, pc, Q, qc, R, rc, rfl, hP, hQ, hR, hN1, hN2⟩ := h2.out.at_ (i := j) hjl
      obtain ⟨r1, r2, r3, r4, r5⟩ := HW.out.op (List.getElem_mem hjl)
      obtain ⟨ov, hov⟩ : ∃ x, x = ops[j] := ⟨_, rfl⟩
      rw [← hov] at hcs hP hQ hR hN1 hN2 r1 r2 r3 r4 r5
      obtain ⟨nm, hnm⟩ : ∃ nm : ByteArray, nm = ⟨ov.name.toArray⟩ := ⟨_, rfl⟩
      obtain ⟨nt, hnt⟩ : ∃ nm : ByteArray, nm = ⟨ov.dst.toArray⟩ := ⟨_, rfl⟩
      have e1 : sv ov.name = .string nm := congrArg Value.string hnm.symm
      have e2 : sv ov.dst = .string nt := congrArg Value.string hnt.symm
      obtain ⟨kb, hkb⟩ : ∃ k', k' = ov.b.length := ⟨_, rfl⟩
      obtain ⟨kf, hkf⟩ : ∃ k', k' = ov.faults.length := ⟨_, rfl⟩
      obtain ⟨kk, hkk⟩ : ∃ k', k' = ov.keep.length := ⟨_, rfl⟩
      have hact : ∀ W, Kd w2 W F d s → Calls Try.prog 20 #[.pointer (some ⟨d, 0, none⟩), .agg #[.int .i64 ov.kind, sv ov.name, sv ov.dst, .slice P kb pc, .bool ov.bad, .slice Q kf qc, .int .i64 ov.n, .slice R kk rc]] W fun e w' =>
          e = .returned (.tuple #[.int .i64 (s.act ov.act).2, .bool ov.can]) ∧ Dk W w' F d (s.act ov.act).1 := fun W hW => by
        have hsm : Same (under w.heap.size) w W := (Same.of_below HB2.out fun _ h => h).trans (Same.of_below hW.below fun b hb => Nat.lt_of_lt_of_le hb HB2.out.size)
        exact act_any ov P Q R kb pc kf qc kk rc (under w.heap.size) (Lib.hid hkb) (Lib.hid hkf) (Lib.hid hkk) (Lib.hid (hP.keep (fun _ h => h) hsm)) (Lib.hid (hQ.keep (fun _ h => h) hsm)) (Lib.hid (hR.keep (fun _ h => h) hsm)) ⟨hN1, hN2⟩
          (Lib.hid fun b hb => ⟨Nat.lt_of_lt_of_le hb (Nat.le_trans HB2.out.size hW.below.size), fun h => by have := hW.base b h; have := HB2.out.size; have : b < w.heap.size := hb; omega⟩) (by omega) (by omega) (by omega) (Lib.hid hW.at_) HF HS (by omega)
      have hcl : ∀ W, Below w2.heap.size w2 W → CellsAt W g (o + j * 8) [.int .i64 ov.kind, .string nm, .string nt, .slice P kb pc, .bool ov.bad, .slice Q kf qc, .int .i64 ov.n, .slice R kk rc] := fun W hW => by
        have := (hcs.below HB2.out hg).below hW (Nat.lt_of_lt_of_le hg HB2.out.size)
        rw [e1, e2, ← hkb, ← hkf, ← hkk] at this
        exact this
      rw [e1, e2] at hact
      have HACT := Lib.hid hact
      have HCL := Lib.hid hcl
      clear hcs hP hQ hR hN1 hN2 hact hcl hnm hnt e1 e2 hkb hkf hkk hov r1 r2 r3 r4 r5 hg
      go_wp2_with fail
      refine (files_any (Lib.hid HK.out.at_) HF).mono ?_
      rintro e w4 ⟨fA, fn, fc, rfl, hfn, hfc, hfm, hfo, hb4⟩
      have K4 := Lib.hid (HK.out.far hb4)
      obtain ⟨-, hfs⟩ := hfo.slice
      have HWAS : Hid (∀ W, Only F w4 W → SliceAt Rep.fin W (btw wr.heap.size w4.heap.size) fA fc (s.files.map Disk.toFin)) := Lib.hid fun W hW => hfs.keep (fun _ h => h) (hW.same fun b hb => ⟨hb.2, fun h => by have := HK.out.at_.lt b h; have := hb.1; omega⟩)
      have HFN := hfn
      clear hfs hfo hb4 hfn
      go_wp2_with fail
      refine (power_any (Lib.hid K4.out.at_)).mono ?_
      rintro e w5 ⟨rfl, rfl⟩
      obtain ⟨pw, hpw⟩ : ∃ b, s.on = b := ⟨_, rfl⟩
      rw [hpw]
      have HPW := Lib.hid hpw
      clear hpw
      go_wp2_with fail
      refine (pending_any (Lib.hid K4.out.at_)).mono ?_
      rintro e w5 ⟨rfl, rfl⟩
      obtain ⟨rl, hrl⟩ : ∃ k, s.row.length = k := ⟨_, rfl⟩
      rw [hrl]
      have HRL := Lib.hid hrl
      clear hrl
      go_wp2_with fail
      refine (done_any (Lib.hid K4.out.at_)).mono ?_
      rintro e w5 ⟨rfl, rfl⟩
      obtain ⟨dn, hdn⟩ : ∃ k, s.done = k := ⟨_, rfl⟩
      rw [hdn]
      have HDN := Lib.hid hdn
      clear hdn
      obtain ⟨a0, a1, a2, a3, a4, a5, a6, a7⟩ := (HCL.out _ K4.out.below).eight
      have HAC := Lib.hid (HACT.out _ K4.out)
      go_wp2_with fail
      refine HAC.out.mono ?_
      rintro e w6 ⟨rfl, hk6⟩
      have HREF : Hid ((s.act ov.act).2 ≠ 0 → Disk.Kept s (s.act ov.act).1 (s.act ov.act).2) := Lib.hid fun h0 => Disk.refused (t := (s.act ov.act).1) (e := (s.act ov.act).2) rfl h0
      have HF6 := Lib.hid (Disk.fine_act HF.out ov.act)
      have HS6 := Lib.hid (Disk.small_act HS.out ov.act)
      obtain ⟨t, ht⟩ : ∃ t, (s.act ov.act).1 = t := ⟨_, rfl⟩
      obtain ⟨ev, hev⟩ : ∃ t, (s.act ov.act).2 = t := ⟨_, rfl⟩
      obtain ⟨cn, hcn⟩ : ∃ b, ov.can = b := ⟨_, rfl⟩
      rw [ht] at hk6 HREF HF6 HS6
      rw [hev] at HREF
      rw [hev, hcn]
      have HO6 := Lib.hid hk6.only
      have K6 := Lib.hid (K4.out.next hk6.at_ hk6.only)
      clear ht hev hcn hk6 HAC HACT HCL a0 a1 a2 a3 a4 a5 a6 a7
      cases cn
      · go_wp2_with fail
        go_roundg (m - (j + 1))
        case measure => omega
        case rel => exact ⟨j + 1, _, t, rfl, by omega, by go_num, K6, HF6, HS6⟩
      by_cases hev0 : ev = 0
      · subst hev0
        go_wp2_with fail
        go_roundg (m - (j + 1))
        case measure => omega
        case rel => exact ⟨j + 1, _, t, rfl, by omega, by go_num, K6, HF6, HS6⟩
      obtain ⟨q1, q2, q3, q4⟩ := HREF.out hev0
      have hb0 : (ev == 0) = false := beq_eq_false_iff_ne.2 hev0
      have HPE : Hid (Calls Try.prog 21 #[.pointer (some ⟨d, 0, none⟩)] w6 fun e w' => e = .returned (.int .i64 (rl : Nat)) ∧ w6 = w') := Lib.hid (by have h := pending_any (Lib.hid K6.out.at_); rw [q1, HRL.out] at h; exact h)
      have HDO : Hid (Calls Try.prog 25 #[.pointer (some ⟨d, 0, none⟩)] w6 fun e w' => e = .returned (.int .i64 dn) ∧ w6 = w') := Lib.hid (by have h := done_any (Lib.hid K6.out.at_); rw [q2, HDN.out] at h; exact h)
      have Q3 := Lib.hid q3
      have Q4 := Lib.hid q4
      clear hev0 HREF q1 q2 q3 q4
      go_wp2_with fail
      refine HPE.out.mono ?_
      rintro e w7 ⟨rfl, rfl⟩
      go_wp2_with fail
      refine HDO.out.mono ?_
      rintro e w7 ⟨rfl, rfl⟩
      by_cases h24 : ev = 24
      · subst h24
        have HPO : Hid (Calls Try.prog 12 #[.pointer (some ⟨d, 0, none⟩)] w6 fun e w' => e = .returned (.bool false) ∧ w6 = w') := Lib.hid (by have h := power_any (Lib.hid K6.out.at_); rw [Q3.out rfl] at h; exact h)
        have HOFF : Hid (t.on = false) := Lib.hid (Q3.out rfl)
        clear Q3 Q4
        go_wp2_with fail
        refine HPO.out.mono ?_
        rintro e w7 ⟨rfl, rfl⟩
        go_wp2_with fail
        refine (files_any (Lib.hid K6.out.at_) HF6).mono ?_
        rintro e w8 ⟨gA, gn, gc, rfl, hgn, hgc, hgm, hgo, hb8⟩
        obtain rfl : gn = 0 := by rw [hgn.out]; simp [Disk.St.files, HOFF.out]
        have K8 := Lib.hid (K6.out.far hb8)
        clear hgn hgo hb8
        go_wp2_with fail
        go_roundg (m - (j + 1))
        case measure => omega
        case rel => exact ⟨j + 1, _, t, rfl, by omega, by go_num, K8, HF6, HS6⟩
      · have hb24 : (ev == 24) = false := beq_eq_false_iff_ne.2 h24
        have HPO : Hid (Calls Try.prog 12 #[.pointer (some ⟨d, 0, none⟩)] w6 fun e w' => e = .returned (.bool pw) ∧ w6 = w') := Lib.hid (by have h := power_any (Lib.hid K6.out.at_); rw [(Q4.out h24).1, HPW.out] at h; exact h)
        have HFL : Hid (t.files = s.files) := Lib.hid (Q4.out h24).2
        clear h24 Q3 Q4
        go_wp2_with fail
        refine HPO.out.mono ?_
        rintro e w7 ⟨rfl, rfl⟩
        have hpp : (pw != pw) = false := by simp
        go_wp2_with fail
        refine (files_any (Lib.hid K6.out.at_) HF6).mono ?_
        rintro e w8 ⟨gA, gn, gc, rfl, hgn, hgc, hgm, hgo, hb8⟩
        obtain ⟨-, hgs⟩ := hgo.slice
        have HW8 := HWAS.out w8 (HO6.out.trans (Only.of_below hb8 nob) fun _ h => h.elim)
        rw [HFL.out] at hgs hgn
        obtain rfl : gn = fn := by rw [hgn.out, HFN.out]
        have K8 := Lib.hid (K6.out.far hb8)
        have HEQ := Lib.hid (eqFiles_yes (w := w8) (s.files.map Disk.toFin) gA fA gn gc fc _ _ (Lib.hid (by rw [List.length_map]; exact hgn.out)) (Lib.hid hgs) (Lib.hid HW8) (Lib.hid fun b hb => hb.2) (Lib.hid fun b hb => by have := hb.2; have := HO6.out.size; have := hb8.size; omega))
        clear hgs hgn hgo hb8 HW8
        go_wp2_with fail
        refine HEQ.out.mono ?_
        rintro e w9 ⟨rfl, hb9⟩
        have K9 := Lib.hid (K8.out.far hb9)
        clear hb9 HEQ
        go_wp2_with fail
        go_roundg (m - (j + 1))
        case measure => omega
        case rel => exact ⟨j + 1, _, t, rfl, by omega, by go_num, K9, HF6, HS6⟩
    · obtain rfl : j = m := by omega
      go_wp2_with fail
      go_ret
      exact ⟨rfl, HB2.out.trans (HK.out.below.mono HB2.out.size)⟩
end
end Go.Proofs.Ytignnohjggjkoaa
