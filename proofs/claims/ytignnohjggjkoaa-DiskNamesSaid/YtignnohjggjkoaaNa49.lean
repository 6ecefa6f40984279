/- Texts that lead to the claim, one behind the other: A number from 0 to most: the walk of galleyref03.Left. No conditions. | Behind a loss of power the names are those behind as many changes as have come about: the walk of galleylaw03.DiskNames. Condition: what is handed in lies within reach. -/
import Derived.Test.YtignnohjggjkoaaNa23
import Derived.Test.YtignnohjggjkoaaNa44
import Derived.Test.YtignnohjggjkoaaNa46
import Derived.Test.YtignnohjggjkoaaNa48
namespace Go.Proofs.Ytignnohjggjkoaa
open Go.RowKit Go.ChangeShapes Go.WideShapes Go.Deep
theorem left_any (n : Int) (most : Nat) (w : World) : Calls Try.prog 23 #[.int .i64 n, .int .i64 most] w fun e w' => e = .returned (.int .i64 (Disk.St.left n most : Nat)) ∧ w' = w := by
  rcases (show n < 0 ∨ (0 ≤ n ∧ (most : Int) < n) ∨ (0 ≤ n ∧ n ≤ most) from by omega) with h | ⟨h0, h⟩ | ⟨h0, h⟩
  · have he : (Disk.St.left n most : Int) = 0 := by unfold Disk.St.left; omega
    rw [he]
    clear he
    go_enter Try.func23, Try.ntmps23
    go_wp2_with fail
    go_ret
    exact ⟨rfl, rfl⟩
  · have he : (Disk.St.left n most : Int) = most := by unfold Disk.St.left; omega
    rw [he]
    clear he
    go_enter Try.func23, Try.ntmps23
    go_wp2_with fail
    go_ret
    exact ⟨rfl, rfl⟩
  · have he : (Disk.St.left n most : Int) = n := by unfold Disk.St.left; omega
    rw [he]
    clear he
    go_enter Try.func23, Try.ntmps23
    go_wp2_with fail
    go_ret
    exact ⟨rfl, rfl⟩
end Go.Proofs.Ytignnohjggjkoaa
namespace Go.Proofs.Ytignnohjggjkoaa
open Go.RowKit Go.ChangeShapes Go.WideShapes Go.Deep

theorem five {wr : World} {b : Nat} {v0 v1 v2 v3 v4 : Value} {t : TypeId} (h : wr.heap[b]? = some (.cells #[v0, v1, v2, v3, v4] t (0, 0))) :
    wr.cell? ⟨b, 0, none⟩ = some v0 ∧ wr.cell? ⟨b, 1, none⟩ = some v1 ∧ wr.cell? ⟨b, 2, none⟩ = some v2 ∧ wr.cell? ⟨b, 3, none⟩ = some v3 ∧ wr.cell? ⟨b, 4, none⟩ = some v4 :=
  ⟨(cell_of_row _ _ 0 _ _ (0, 0) h).trans rfl, (cell_of_row _ _ 1 _ _ (0, 0) h).trans rfl, (cell_of_row _ _ 2 _ _ (0, 0) h).trans rfl, (cell_of_row _ _ 3 _ _ (0, 0) h).trans rfl, (cell_of_row _ _ 4 _ _ (0, 0) h).trans rfl⟩
theorem enters_names : ∀ args w, (callFunc 17 args).run Try.prog w = .ok (.enter 17 args) w := enters_of Try.func17 (by kernel_rfl) rfl
theorem opv_act (ov : OpV) (h12 : ov.kind ≠ 12) (h13 : ov.kind ≠ 13) : ov.act ≠ .off ∧ ∀ d k, ov.act ≠ .start d k := by
  unfold OpV.act
  rw [if_neg h12, if_neg h13]
  refine ⟨?_, fun d k => ?_⟩
  all_goals
    repeat' split
    all_goals (intro h; cases h)
section
variable {w : World}
set_option maxRecDepth 100000 in
set_option maxHeartbeats 8000000 in
set_option linter.unusedSimpArgs false in
theorem diskNames_law (room : Int) (fs : List Disk.Fin_) (ops : List OpV) (dir : Int) (keep : List Int) (A B KA : Option Addr) (n c m mc kn kc : Nat) (hn : Hid (n = fs.length)) (hm : Hid (m = ops.length)) (_ : Hid (kn = keep.length)) (h1 : Hid (SliceAt Rep.fin w (under w.heap.size) A c fs)) (h2 : Hid (SliceAt Rep.op w (under w.heap.size) B mc ops)) (_ : Hid (SliceAt (Rep.int .i64) w (under w.heap.size) KA kc keep)) (_ : Hid ((Lit.int .i64 dir).wf = true))
    (hf : Hid (∀ f ∈ fs, finReach f)) (ho : Hid (∀ o ∈ ops, opReach o)) (hnb : n ≤ 281474976710656) (hmb : m ≤ 281474976710656) (_ : kn ≤ 281474976710656) :
    Calls Try.prog 4 #[.agg #[.int .i64 room, .slice A n c, .slice B m mc, .int .i64 dir, .slice KA kn kc]] w fun e w' => e = .returned (.bool true) ∧ Below w.heap.size w w' := by
  have hnc : n ≤ c := by rw [hn.out]; exact h1.out.len
  have hcm := h1.out.max
  have hmd : m ≤ mc := by rw [hm.out]; exact h2.out.len
  have hdm := h2.out.max
  obtain ⟨W, hW⟩ : ∃ W, W = w.alloc (.cells #[.int .i64 room, .slice A n c, .slice B m mc, .int .i64 dir, .slice KA kn kc] 48) := ⟨_, rfl⟩
  have hbW : Below w.heap.size w W := by rw [hW]; exact Below.alloc (Below.refl _ _) (Nat.le_refl _) _
  have hbox : W.heap[w.heap.size]? = some (.cells #[.int .i64 room, .slice A n c, .slice B m mc, .int .i64 dir, .slice KA kn kc] 48 (0, 0)) := by rw [hW]; exact heap_alloc_new _ _
  have hwlt : w.heap.size < W.heap.size := (Array.getElem?_eq_some_iff.1 hbox).1
  have hbx : Hid (∀ wr, Below W.heap.size W wr → wr.heap[w.heap.size]? = some (.cells #[.int .i64 room, .slice A n c, .slice B m mc, .int .i64 dir, .slice KA kn kc] 48 (0, 0))) := Lib.hid fun wr ho => (ho.block _ hwlt).trans hbox
  have HSM : Hid (∀ wr, Below W.heap.size W wr → Same (under w.heap.size) w wr) := Lib.hid fun wr hb => (Same.of_below hbW fun _ h => h).trans (Same.of_below hb fun _ h => Nat.lt_trans h hwlt)
  have HBW := Lib.hid hbW
  have HWL := Lib.hid hwlt
  have H1 := Lib.hid (beyond_any (w := W) fs ops A B n c m mc (under w.heap.size) hn hm (Lib.hid (h1.out.keep (fun _ h => h) (HSM.out W (Below.refl _ _)))) (Lib.hid (h2.out.keep (fun _ h => h) (HSM.out W (Below.refl _ _)))) (Lib.hid fun b hb => Nat.lt_trans hb hwlt) hf ho hnb hmb)
  have hback : Hid (∀ wr, Below W.heap.size W wr → Below w.heap.size w wr) := Lib.hid fun wr hb => hbW.trans (hb.mono (Nat.le_of_lt hwlt))
  go_enter Try.func4, Try.ntmps4
  go_wp2_with fail
  rw [← hW]
  obtain ⟨c0, c1, c2, c3, c4⟩ := five hbox
  clear hW hbW hbox hwlt
  go_wp2_with fail
  refine H1.out.mono ?_
  rintro e w1 ⟨b, rfl, hw, hb1⟩
  have HB1 := Lib.hid hb1
  clear c0 c1 c2 c3 c4
  obtain ⟨c0, c1, c2, c3, c4⟩ := five (hbx.out w1 hb1)
  cases b
  case true =>
    clear hb1 hw
    go_wp2_with fail
    go_ret
    exact ⟨rfl, hback.out _ HB1.out⟩
  have HW := Lib.hid (hw rfl)
  clear hb1 hw H1
  by_cases hbig : 10000 < m
  · go_wp2_with fail
    go_ret
    exact ⟨rfl, hback.out _ HB1.out⟩
  have hmb2 : m ≤ 10000 := by omega
  go_wp2_with fail
  refine lives_any.mono ?_
  rintro e w2 ⟨rfl, hb2⟩
  have HB2 : Hid (Below W.heap.size W w2) := Lib.hid (HB1.out.trans (hb2.mono HB1.out.size))
  have HFT := Lib.hid (fit_any (w := w2) room A n c fs (under w.heap.size) hn (Lib.hid (h1.out.keep (fun _ h => h) (HSM.out w2 HB2.out))) (Lib.hid fun b hb => Nat.lt_of_lt_of_le (Nat.lt_trans hb HWL.out) HB2.out.size) (Lib.hid fun f hf' => by have := (HW.out.file hf').1; omega))
  clear hb2 c0 c1 c2 c3 c4
  obtain ⟨c0, c1, c2, c3, c4⟩ := five (hbx.out w2 HB2.out)
  go_wp2_with fail
  refine HFT.out.mono ?_
  rintro e w3 (⟨-, rfl, hb3⟩ | ⟨he, d, F, rfl, hk⟩)
  · have HB3 : Hid (Below W.heap.size W w3) := Lib.hid (HB2.out.trans (hb3.mono HB2.out.size))
    clear hb3 c0 c1 c2 c3 c4
    go_wp2_with fail
    go_ret
    exact ⟨rfl, hback.out _ HB3.out⟩
  have HK := Lib.hid hk
  have HF0 := Lib.hid (Disk.fine_from he)
  have HS0 : Hid (Disk.Small 0 (Disk.fromSt room fs)) := Lib.hid (Disk.small_from room fs)
  obtain ⟨s0, hs0⟩ : ∃ s, s = Disk.fromSt room fs := ⟨_, rfl⟩
  have HON0 : Hid (s0.on = true) := Lib.hid (by rw [hs0]; rfl)
  have HR0 : Hid (s0.rows = [s0.names]) := Lib.hid (by rw [hs0]; rfl)
  rw [← hs0] at HK HF0 HS0
  clear hk he HFT hs0 c0 c1 c2 c3 c4
  have HWB : Hid (∀ wr, Below w2.heap.size w2 wr → Below W.heap.size W wr) := Lib.hid fun wr hb => HB2.out.trans (hb.mono HB2.out.size)
  go_wp2_with fail
  refine (diskNames_any (Lib.hid HK.out.at_) HF0).mono ?_
  rintro e w4 ⟨NA, nn, nc, rfl, -, -, -, hown, hb4⟩
  have K4 := Lib.hid (HK.out.far hb4)
  have HN4 := Lib.hid hown
  have HFR : Hid (∀ b, w3.heap.size ≤ b → ¬ F b) := Lib.hid fun b hb hF => by have := HK.out.at_.lt b hF; omega
  have HB4 := Lib.hid hb4
  clear hown hb4
  go_wp2_with fail
  obtain ⟨w5, hw5⟩ : ∃ W, W = w4.alloc (.cells #[.slice NA nn nc] 43) := ⟨_, rfl⟩
  obtain ⟨g5, hg5⟩ : ∃ g, g = w4.heap.size := ⟨_, rfl⟩
  have hb5 : Below w4.heap.size w4 w5 := by rw [hw5]; exact Below.alloc (Below.refl _ _) (Nat.le_refl _) _
  have K5 := Lib.hid (K4.out.far hb5)
  have HR5 : Hid (RowsAt w5 w2.heap.size F g5 0 1 [.slice NA nn nc] s0.rows) := Lib.hid (by
    refine ⟨by rw [hw5, hg5]; exact MidV.new w4 [.slice NA nn nc] K4.out.below.size (by simp [maxLen]) (by simp [Value.oneCell']), by rw [hg5]; exact HFR.out _ HB4.out.size, ?_⟩
    rw [HR0.out]
    refine (NamesRow.snoc (vs := []) (R := []) ⟨rfl, fun k v l hk => by simp at hk, fun v hv => by simp at hv⟩ ((HN4.out.far hb5).low HK.out.below.size) fun b hb => HFR.out b (HN4.out.block_lt hb).1))
  rw [← hw5, ← hg5]
  clear hw5 hg5 hb5 HN4 HB4 HFR HR0
  go_loopg [6, 7] m (fun q v i wr => ∃ (j : Nat) (F : Blocks) (s : Disk.St) (g off cap : Nat) (vs : List Value), q = m - j ∧ j ≤ m ∧ i = .int .i64 j ∧ v = .slice (some ⟨g, off, none⟩) vs.length cap ∧ vs.length ≤ cap ∧ cap ≤ 9223372036854775807 ∧ Hid (Kd w2 wr F d s) ∧ Hid (Disk.Fine s) ∧ Hid (Disk.Small j s) ∧ Hid (s.on = true) ∧ Hid (RowsAt wr w2.heap.size F g off cap vs s.rows))
  case atStart => exact ⟨0, F, s0, g5, 0, 1, [.slice NA nn nc], rfl, by omega, rfl, rfl, Nat.le_refl _, by omega, K5, HF0, HS0, HON0, HR5⟩
  case round =>
    obtain ⟨j, F, s, g, off, cap, vs, rfl, hj, rfl, rfl, hvc, hvm, HK, HF, HS, HON, HR⟩ := hrel
    obtain ⟨c0, c1, c2, c3, c4⟩ := five (hbx.out wr (HWB.out wr HK.out.below))
    by_cases hjm : j < m
    · have hjl : j < ops.length := by rw [← hm.out]; exact hjm
      obtain ⟨g', o, cs, rfl, hg, hcs, P, pc, Q, qc, R, rc, rfl, hP, hQ, hR, hN1, hN2⟩ := h2.out.at_ (i := j) hjl
      obtain ⟨r1, r2, r3, r4, r5⟩ := HW.out.op (List.getElem_mem hjl)
      obtain ⟨ov, hov⟩ : ∃ x, x = ops[j] := ⟨_, rfl⟩
      rw [← hov] at hcs hP hQ hR hN1 hN2 r1 r2 r3 r4 r5
      obtain ⟨nm, hnm⟩ : ∃ nm : ByteArray, nm = ⟨ov.name.toArray⟩ := ⟨_, rfl⟩
      obtain ⟨nt, hnt⟩ : ∃ nm : ByteArray, nm = ⟨ov.dst.toArray⟩ := ⟨_, rfl⟩
      have e1 : sv ov.name = .string nm := congrArg Value.string hnm.symm
      have e2 : sv ov.dst = .string nt := congrArg Value.string hnt.symm
      obtain ⟨kb, hkb'⟩ : ∃ k', k' = ov.b.length := ⟨_, rfl⟩
      obtain ⟨kf, hkf⟩ : ∃ k', k' = ov.faults.length := ⟨_, rfl⟩
      obtain ⟨kk, hkk⟩ : ∃ k', k' = ov.keep.length := ⟨_, rfl⟩
      have hact : ∀ W, Kd w2 W F d s → Calls Try.prog 20 #[.pointer (some ⟨d, 0, none⟩), .agg #[.int .i64 ov.kind, sv ov.name, sv ov.dst, .slice P kb pc, .bool ov.bad, .slice Q kf qc, .int .i64 ov.n, .slice R kk rc]] W fun e w' =>
          e = .returned (.tuple #[.int .i64 (s.act ov.act).2, .bool ov.can]) ∧ Dk W w' F d (s.act ov.act).1 := fun W hW => by
        have hsm := HSM.out W (HWB.out W hW.below)
        exact act_any ov P Q R kb pc kf qc kk rc (under w.heap.size) (Lib.hid hkb') (Lib.hid hkf) (Lib.hid hkk) (Lib.hid (hP.keep (fun _ h => h) hsm)) (Lib.hid (hQ.keep (fun _ h => h) hsm)) (Lib.hid (hR.keep (fun _ h => h) hsm)) ⟨hN1, hN2⟩
          (Lib.hid fun b hb => ⟨Nat.lt_of_lt_of_le (Nat.lt_trans hb HWL.out) (HWB.out W hW.below).size, fun h => by have := hW.base b h; have := HB2.out.size; have : b < w.heap.size := hb; have := HWL.out; omega⟩) (by omega) (by omega) (by omega) (Lib.hid hW.at_) HF HS (by omega)
      have hcl : CellsAt wr g' (o + j * 8) [.int .i64 ov.kind, .string nm, .string nt, .slice P kb pc, .bool ov.bad, .slice Q kf qc, .int .i64 ov.n, .slice R kk rc] := by
        have := hcs.keep hg (HSM.out wr (HWB.out wr HK.out.below))
        rw [e1, e2, ← hkb', ← hkf, ← hkk] at this
        exact this
      obtain ⟨a0, a1, a2, a3, a4, a5, a6, a7⟩ := hcl.eight
      rw [e1, e2] at hact
      have HACT := Lib.hid hact
      have HST : Hid (ov.kind ≠ 12 → ov.kind ≠ 13 → Disk.Step s (s.act ov.act).1) := Lib.hid fun h12 h13 => Disk.act_step s ov.act (opv_act ov h12 h13).1 (opv_act ov h12 h13).2
      obtain ⟨kd, hkd⟩ : ∃ x, x = ov.kind := ⟨_, rfl⟩
      rw [← hkd] at a0 HACT HST
      clear hcs hP hQ hR hN1 hN2 hact hcl hnm hnt e1 e2 hkb' hkf hkk hov r1 r2 r3 r4 r5 hg hkd
      go_upto_region 14 with fail
      obtain ⟨wx, hwx⟩ : ∃ W, W = wr.alloc (.cells #[.int .i64 kd, .string nm, .string nt, .slice P kb pc, .bool ov.bad, .slice Q kf qc, .int .i64 ov.n, .slice R kk rc] 55) := ⟨_, rfl⟩
      have hbx2 : Below wr.heap.size wr wx := by rw [hwx]; exact Below.alloc (Below.refl _ _) (Nat.le_refl _) _
      have hox : wx.heap[wr.heap.size]? = some (.cells #[.int .i64 kd, .string nm, .string nt, .slice P kb pc, .bool ov.bad, .slice Q kf qc, .int .i64 ov.n, .slice R kk rc] 55 (0, 0)) := by rw [hwx]; exact heap_alloc_new _ _
      rw [← hwx]
      have KX := Lib.hid (HK.out.far hbx2)
      have RX := Lib.hid (HR.out.below hbx2)
      clear hwx hbx2 a0 a1 a2 a3 a4 a5 a6 a7 c0 c1 c2 c3 c4
      obtain ⟨a0, a1, a2, a3, a4, a5, a6, a7⟩ := eight hox
      clear hox
      by_cases h12 : kd = 12
      · subst h12
        go_wp2_with fail
        go_roundg (m - (j + 1))
        case measure => omega
        case rel => exact ⟨j + 1, F, s, g, off, cap, vs, rfl, by omega, by go_num, rfl, hvc, hvm, KX, HF, Lib.hid (Disk.small_mono HS.out (Nat.le_succ _)), HON, RX⟩
      by_cases h13 : kd = 13
      · subst h13
        go_wp2_with fail
        go_roundg (m - (j + 1))
        case measure => omega
        case rel => exact ⟨j + 1, F, s, g, off, cap, vs, rfl, by omega, by go_num, rfl, hvc, hvm, KX, HF, Lib.hid (Disk.small_mono HS.out (Nat.le_succ _)), HON, RX⟩
      have hb12 : (kd == 12) = false := beq_eq_false_iff_ne.2 h12
      have hb13 : (kd == 13) = false := beq_eq_false_iff_ne.2 h13
      have HAC := Lib.hid (HACT.out wx KX.out)
      have HSTEP := Lib.hid (HST.out h12 h13)
      clear h12 h13
      go_wp2_with fail
      refine HAC.out.mono ?_
      rintro e w6 ⟨rfl, hk6⟩
      have HF6 := Lib.hid (Disk.fine_act HF.out ov.act)
      have HS6 := Lib.hid (Disk.small_act HS.out ov.act)
      obtain ⟨t, ht⟩ : ∃ t, (s.act ov.act).1 = t := ⟨_, rfl⟩
      rw [ht] at hk6 HF6 HS6 HSTEP
      have K6 := Lib.hid (KX.out.next hk6.at_ hk6.only)
      have R6 := Lib.hid (RX.out.call hk6.only)
      obtain ⟨F6, hF6⟩ : ∃ X, X = grow F wx w6 := ⟨_, rfl⟩
      rw [← hF6] at K6 R6
      obtain ⟨on, hon⟩ : ∃ b, t.on = b := ⟨_, rfl⟩
      have HPO : Hid (Calls Try.prog 12 #[.pointer (some ⟨d, 0, none⟩)] w6 fun e w' => e = .returned (.bool on) ∧ w6 = w') := Lib.hid (by have h := power_any (Lib.hid K6.out.at_); rw [hon] at h; exact h)
      have HON6 := Lib.hid hon
      clear ht hk6 hF6 hon HAC HACT HST a0 a1 a2 a3 a4 a5 a6 a7
      cases on
      · have R6b : Hid (RowsAt w6 w2.heap.size F6 g off cap vs t.rows) := Lib.hid (by rw [Disk.rows_still (HSTEP.out.2 HON.out HON6.out)]; exact R6.out)
        go_wp2_with fail
        refine HPO.out.mono ?_
        rintro e wq ⟨rfl, rfl⟩
        have HS := Lib.hid (Disk.small_mono HS6.out (show j + 1 ≤ m by omega))
        have HK := K6
        have HF := HF6
        have HR := R6b
        clear R6 R6b K6 HF6 HS6 HPO KX RX
        obtain ⟨s, rfl⟩ : ∃ X : Disk.St, X = t := ⟨_, rfl⟩
        obtain ⟨F, rfl⟩ : ∃ X : Blocks, X = F6 := ⟨_, rfl⟩
        obtain ⟨rl, hrl⟩ : ∃ k, s.row.length = k := ⟨_, rfl⟩
        have HPE : Hid (∀ W F t, Kd w2 W F d t → t.row = s.row → Calls Try.prog 21 #[.pointer (some ⟨d, 0, none⟩)] W fun e w' => e = .returned (.int .i64 (rl : Nat)) ∧ W = w') := Lib.hid fun W F t hK ht => by have h := pending_any (Lib.hid hK.at_); rw [ht, hrl] at h; exact h
        have hvl : vs.length = rl + 1 := by rw [HR.out.names.len, Disk.rows_len, hrl]
        have HRL := Lib.hid hrl
        clear hrl
        obtain ⟨vl, hvl2⟩ : ∃ k, k = vs.length := ⟨_, rfl⟩
        rw [← hvl2] at hvl hvc
        rw [← hvl2]
        have HVL := Lib.hid hvl2
        clear hvl2
        go_wp2_with fail
        refine (HPE.out _ _ _ HK.out rfl).mono ?_
        rintro e wq ⟨rfl, rfl⟩
        go_wp2_with fail
        refine (off_any (Lib.hid HK.out.at_)).mono ?_
        rintro e w7 ⟨rfl, hd7, ho7⟩
        have K7 := Lib.hid (HK.out.next (hd7.up (fun _ hb => .inl hb) (grow_lt HK.out.at_.lt ho7.size)) ho7)
        have R7 := Lib.hid (HR.out.call ho7)
        have HF7 : Hid (Disk.Fine s.off) := Lib.hid (Disk.fine_act HF.out .off)
        obtain ⟨F7, hF7⟩ : ∃ X, X = grow F w6 w7 := ⟨_, rfl⟩
        rw [← hF7] at K7 R7
        clear hd7 ho7 hF7
        go_wp2_with fail
        refine (diskNames_any (Lib.hid K7.out.at_) HF7).mono ?_
        rintro e w8 ⟨XA, xn, xc, rfl, hxn, -, -, -, hb8⟩
        obtain rfl : xn = 0 := by rw [hxn.out]; rfl
        have K8 := Lib.hid (K7.out.far hb8)
        have R8 := Lib.hid (R7.out.below hb8)
        clear hxn hb8
        go_wp2_with fail
        refine (HPE.out _ _ _ K8.out rfl).mono ?_
        rintro e wq ⟨rfl, rfl⟩
        obtain ⟨c0, c1, c2, c3, c4⟩ := five (hbx.out w8 (HWB.out w8 K8.out.below))
        go_wp2_with fail
        refine (start_off dir none 0 0 [] nob (Lib.hid K8.out.at_) HF7 rfl (Lib.hid rfl) (Lib.hid (SliceAt.nil _ _ _)) (Lib.hid fun _ h => h.elim) (by omega) (by show s.row.length ≤ _; have := HS.out.2.2.2.2; omega)).mono ?_
        rintro e w9 ⟨rfl, hd9, ho9⟩
        have K9 := Lib.hid (K8.out.next hd9 ho9)
        have R9 := Lib.hid (R8.out.call ho9)
        have HF9 : Hid (Disk.Fine (s.off.start dir [])) := Lib.hid (Disk.fine_act HF7.out (.start dir []))
        obtain ⟨q1, q2, q3⟩ := Disk.names_start (s := s.off) dir [] rfl
        obtain ⟨t, ht⟩ : ∃ t, t = s.off.start dir [] := ⟨_, rfl⟩
        rw [← ht] at K9 HF9 q1 q2 q3
        obtain ⟨ix, hix⟩ : ∃ k, k = Disk.St.left dir rl := ⟨_, rfl⟩
        have hixl : ix ≤ rl := by rw [hix]; unfold Disk.St.left; omega
        have q4 : some t.names = s.rows[ix]? := by rw [hix, ← HRL.out]; exact q3
        obtain ⟨F9, hF9⟩ : ∃ X, X = grow F7 w8 w9 := ⟨_, rfl⟩
        rw [← hF9] at K9 R9
        have hixv : ix < vs.length := by rw [← HVL.out]; omega
        obtain ⟨v, hv⟩ : ∃ v, v = vs[ix] := ⟨_, rfl⟩
        have hcell := R9.out.mid.cell hixv
        rw [← hv] at hcell
        have hvo := R9.out.names.own ix v t.names (by rw [hv]; exact List.getElem?_eq_getElem hixv) q4.symm
        obtain ⟨RA, rn, rc, rfl, hrn, -, -⟩ := hvo.form
        obtain ⟨A9, c9', he9, hrs⟩ := hvo.slice
        simp only [Value.slice.injEq] at he9
        obtain ⟨rfl, -, rfl⟩ := he9
        have hrs2 := hrs.up (S' := fun b => b < w9.heap.size) fun b hb => hb.elim (fun h => h.2.1) fun h => h.elim
        have HPOW : Hid (∀ W, Below w9.heap.size w9 W → Calls Try.prog 12 #[.pointer (some ⟨d, 0, none⟩)] W fun e w' => e = .returned (.bool true) ∧ W = w') := Lib.hid fun W hW => by have h := power_any (Lib.hid (K9.out.far hW).at_); rw [q1] at h; exact h
        have HPEN : Hid (∀ W, Below w9.heap.size w9 W → Calls Try.prog 21 #[.pointer (some ⟨d, 0, none⟩)] W fun e w' => e = .returned (.int .i64 0) ∧ W = w') := Lib.hid fun W hW => by have h := pending_any (Lib.hid (K9.out.far hW).at_); rw [q2] at h; exact h
        have HNAM : Hid (∀ W, Below w9.heap.size w9 W → Calls Try.prog 17 #[.pointer (some ⟨d, 0, none⟩)] W fun e w' => ∃ A n c, e = .returned (.slice A n c) ∧ Below W.heap.size W w' ∧ Hid (∀ W', Below w'.heap.size w' W' → Calls Try.prog 22 #[.slice A n c, .slice RA rn rc] W' fun e w2 => e = .returned (.bool true) ∧ ∃ n, w2 = W'.drewN n)) := Lib.hid fun W hW => by
          refine (diskNames_any (Lib.hid (K9.out.far hW).at_) HF9).mono ?_
          rintro e w' ⟨A, n, c, rfl, hn, -, -, ho, hb⟩
          refine ⟨A, n, c, rfl, hb, Lib.hid fun W' hW' => ?_⟩
          obtain ⟨A1, c1', he1, hs1⟩ := ho.slice
          simp only [Value.slice.injEq] at he1
          obtain ⟨rfl, -, rfl⟩ := he1
          have hs2 := hs1.keep (S' := fun b => b < w'.heap.size) (fun b hb => hb.elim (fun h => h.2.1) fun h => h.elim) (Same.of_below hW' fun b hb => hb.elim (fun h => h.2.1) fun h => h.elim)
          have hr2 := hrs2.keep (fun _ h => h) (Same.of_below (hW.trans ((hb.mono hW.size).trans (hW'.mono (Nat.le_trans hW.size hb.size)))) fun _ h => h)
          have k := eqTexts A RA c rc (t.names.map ba) (t.names.map ba) W' _ _ hs2 hr2
          rw [show (t.names.map ba).length = n from by rw [hn.out, List.length_map]] at k
          rw [show rn = n from by rw [hrn.out, hn.out, List.length_map]]
          refine k.mono ?_
          rintro e w2 ⟨rfl, q⟩
          exact ⟨by simp, q⟩
        have HKK : Hid (∀ W W', (Below w9.heap.size w9 W ∧ W.cell? ⟨w.heap.size, 3, none⟩ = some (.int .i64 dir) ∧ W.cell? ⟨g, off + ix, none⟩ = some (.slice RA rn rc)) → Below W.heap.size W W' → (Below w9.heap.size w9 W' ∧ W'.cell? ⟨w.heap.size, 3, none⟩ = some (.int .i64 dir) ∧ W'.cell? ⟨g, off + ix, none⟩ = some (.slice RA rn rc))) := Lib.hid fun W W' h hb =>
          ⟨h.1.trans (hb.mono h.1.size), (hb.cell (p := ⟨w.heap.size, 3, none⟩) (World.block_lt_of_cell? W _ h.2.1)).trans h.2.1, (hb.cell (p := ⟨g, off + ix, none⟩) (World.block_lt_of_cell? W _ h.2.2)).trans h.2.2⟩
        obtain ⟨c0, c1, c2, c3, c4⟩ := five (hbx.out w9 (HWB.out w9 K9.out.below))
        have HK0 : Hid (Below w9.heap.size w9 w9.drew ∧ w9.drew.cell? ⟨w.heap.size, 3, none⟩ = some (.int .i64 dir) ∧ w9.drew.cell? ⟨g, off + ix, none⟩ = some (.slice RA rn rc)) := Lib.hid ⟨⟨rfl, rfl, rfl, Nat.le_refl _, fun _ _ => rfl⟩, c3, hcell⟩
        have HLF : Hid (∀ W, Calls Try.prog 23 #[.int .i64 dir, .int .i64 (rl : Nat)] W fun e w' => e = .returned (.int .i64 (ix : Nat)) ∧ w' = W) := Lib.hid fun W => by rw [hix]; exact left_any dir rl W
        have hixb : ix < vl := by omega
        have hixi : (ix : Int) < (vl : Int) := by omega
        have hix0 : (0 : Int) ≤ (ix : Int) := by omega
        have hixj : (ix : Int) < (rl : Int) + 1 := by omega
        clear hd9 ho9 q1 q2 q3 q4 ht hix hF9 hv hcell hvo hrn hrs hrs2
        go_wp2_with fail
        refine wp_region_noPanic ?_
        refine wp_region_held_drew (S := (fun W => Below w9.heap.size w9 W ∧ W.cell? ⟨w.heap.size, 3, none⟩ = some (.int .i64 dir) ∧ W.cell? ⟨g, off + ix, none⟩ = some (.slice RA rn rc))) (by kernel_rfl) HK0.out (fun hHeld => ?_)
        refine wpAnyH_take (i := 0) (v := ?_) rfl (by kernel_rfl) (by kernel_rfl) (by kernel_rfl) (fun _ _ _ h => h) (Or.inl ⟨by rfl, ?_⟩) (by assumption) ?_
        rotate_left 1
        · (intro w hSw; (try dsimp only at hSw); (try simp only [List.getElem_toArray, List.getElem_cons_succ, List.getElem_cons_zero]); go_simp <;> (try with_reducible rfl))
        try simp only [Act.put, List.getElem_toArray, List.getElem_cons_succ, List.getElem_cons_zero, List.setIfInBounds_toArray, List.set_cons_zero, List.set_cons_succ]
        refine wpAnyH_ready (rs := [1]) (by kernel_rfl) (by simp) ?_
        refine AllReadyH.cons rfl (fun K hK => ?_) AllReadyH.nil
        go_simp
        refine (HPOW.out _ hHeld.1).mono ?_; rintro e wy ⟨rfl, rfl⟩
        go_wp2_with fail
        refine hK.out _ _ (by first | exact HK0.out | assumption | exact HKK.out _ _ (by assumption) (by assumption) | exact HKK.out _ _ (by assumption) (below_dr _ _)) (fun hNew => ?_)
        clear hK K hHeld
        have hHeld := hNew
        clear hNew
        try simp only [Act.put, List.setIfInBounds_toArray, List.set_cons_zero, List.set_cons_succ]
        refine wpAnyH_take (i := 2) (v := ?_) rfl (by kernel_rfl) (by kernel_rfl) (by kernel_rfl) (fun _ _ _ h => h) (Or.inl ⟨by rfl, ?_⟩) (by assumption) ?_
        rotate_left 1
        · (intro w hSw; (try dsimp only at hSw); (try simp only [List.getElem_toArray, List.getElem_cons_succ, List.getElem_cons_zero]); go_simp <;> (try with_reducible rfl))
        try simp only [Act.put, List.getElem_toArray, List.getElem_cons_succ, List.getElem_cons_zero, List.setIfInBounds_toArray, List.set_cons_zero, List.set_cons_succ]
        refine wpAnyH_take (i := 3) (v := ?_) rfl (by kernel_rfl) (by kernel_rfl) (by kernel_rfl) (fun _ _ _ h => h) (Or.inl ⟨by rfl, ?_⟩) (by assumption) ?_
        rotate_left 1
        · (intro w hSw; (try dsimp only at hSw); (try simp only [List.getElem_toArray, List.getElem_cons_succ, List.getElem_cons_zero]); go_simp <;> (try with_reducible rfl))
        try simp only [Act.put, List.getElem_toArray, List.getElem_cons_succ, List.getElem_cons_zero, List.setIfInBounds_toArray, List.set_cons_zero, List.set_cons_succ]
        refine wpAnyH_ready (rs := [4]) (by kernel_rfl) (by simp) ?_
        refine AllReadyH.cons rfl (fun K hK => ?_) AllReadyH.nil
        go_simp
        refine (HPEN.out _ hHeld.1).mono ?_; rintro e wy ⟨rfl, rfl⟩
        go_wp2_with fail
        refine hK.out _ _ (by first | exact HK0.out | assumption | exact HKK.out _ _ (by assumption) (by assumption) | exact HKK.out _ _ (by assumption) (below_dr _ _)) (fun hNew => ?_)
        clear hK K hHeld
        have hHeld := hNew
        clear hNew
        try simp only [Act.put, List.setIfInBounds_toArray, List.set_cons_zero, List.set_cons_succ]
        refine wpAnyH_take (i := 5) (v := ?_) rfl (by kernel_rfl) (by kernel_rfl) (by kernel_rfl) (fun _ _ _ h => h) (Or.inl ⟨by rfl, ?_⟩) (by assumption) ?_
        rotate_left 1
        · (intro w hSw; (try dsimp only at hSw); (try simp only [List.getElem_toArray, List.getElem_cons_succ, List.getElem_cons_zero]); go_simp <;> (try with_reducible rfl))
        try simp only [Act.put, List.getElem_toArray, List.getElem_cons_succ, List.getElem_cons_zero, List.setIfInBounds_toArray, List.set_cons_zero, List.set_cons_succ]
        refine wpAnyH_take (i := 6) (v := ?_) rfl (by kernel_rfl) (by kernel_rfl) (by kernel_rfl) (fun _ _ _ h => h) (Or.inl ⟨by rfl, ?_⟩) (by assumption) ?_
        rotate_left 1
        · (intro w hSw; (try dsimp only at hSw); (try simp only [List.getElem_toArray, List.getElem_cons_succ, List.getElem_cons_zero]); go_simp <;> (try with_reducible rfl))
        try simp only [Act.put, List.getElem_toArray, List.getElem_cons_succ, List.getElem_cons_zero, List.setIfInBounds_toArray, List.set_cons_zero, List.set_cons_succ]
        refine wpAnyH_take (i := 7) (v := ?_) rfl (by kernel_rfl) (by kernel_rfl) (by kernel_rfl) (fun _ _ _ h => h) (Or.inl ⟨by rfl, ?_⟩) (by assumption) ?_
        rotate_left 1
        · (intro w hSw; (try dsimp only at hSw); (try simp only [List.getElem_toArray, List.getElem_cons_succ, List.getElem_cons_zero]); go_simp <;> (try with_reducible rfl))
        try simp only [Act.put, List.getElem_toArray, List.getElem_cons_succ, List.getElem_cons_zero, List.setIfInBounds_toArray, List.set_cons_zero, List.set_cons_succ]
        refine wpAnyH_take (i := 8) (v := ?_) rfl (by kernel_rfl) (by kernel_rfl) (by kernel_rfl) (fun _ _ _ h => h) (Or.inl ⟨by rfl, ?_⟩) (by assumption) ?_
        rotate_left 1
        · (intro w hSw; (try dsimp only at hSw); (try simp only [List.getElem_toArray, List.getElem_cons_succ, List.getElem_cons_zero]); go_simp <;> (try with_reducible rfl))
        try simp only [Act.put, List.getElem_toArray, List.getElem_cons_succ, List.getElem_cons_zero, List.setIfInBounds_toArray, List.set_cons_zero, List.set_cons_succ]
        refine wpAnyH_take (i := 10) (v := ?_) rfl (by kernel_rfl) (by kernel_rfl) (by kernel_rfl) (fun _ _ _ h => h) (Or.inl ⟨by rfl, ?_⟩) (by assumption) ?_
        rotate_left 1
        · (intro w hSw; (try dsimp only at hSw); (try simp only [List.getElem_toArray, List.getElem_cons_succ, List.getElem_cons_zero]); go_simp <;> (try with_reducible rfl))
        try simp only [Act.put, List.getElem_toArray, List.getElem_cons_succ, List.getElem_cons_zero, List.setIfInBounds_toArray, List.set_cons_zero, List.set_cons_succ]
        refine wpAnyH_take (i := 11) (v := ?_) rfl (by kernel_rfl) (by kernel_rfl) (by kernel_rfl) (fun _ _ _ h => h) (Or.inl ⟨by rfl, ?_⟩) (by assumption) ?_
        rotate_left 1
        · (intro w hSw; (try dsimp only at hSw); (try simp only [List.getElem_toArray, List.getElem_cons_succ, List.getElem_cons_zero]); go_simp <;> (try with_reducible rfl))
        try simp only [Act.put, List.getElem_toArray, List.getElem_cons_succ, List.getElem_cons_zero, List.setIfInBounds_toArray, List.set_cons_zero, List.set_cons_succ]
        refine wpAnyH_take (i := 12) (v := ?_) rfl (by kernel_rfl) (by kernel_rfl) (by kernel_rfl) (fun _ _ _ h => h) (Or.inl ⟨by rfl, ?_⟩) (by assumption) ?_
        rotate_left 1
        · (intro w hSw; (try dsimp only at hSw); (try simp only [List.getElem_toArray, List.getElem_cons_succ, List.getElem_cons_zero]); go_simp <;> (try with_reducible rfl))
        try simp only [Act.put, List.getElem_toArray, List.getElem_cons_succ, List.getElem_cons_zero, List.setIfInBounds_toArray, List.set_cons_zero, List.set_cons_succ]
        refine wpAnyH_take (i := 13) (v := ?_) rfl (by kernel_rfl) (by kernel_rfl) (by kernel_rfl) (fun _ _ _ h => h) (Or.inl ⟨by rfl, ?_⟩) (by assumption) ?_
        rotate_left 1
        · (intro w hSw; (try dsimp only at hSw); (try simp only [List.getElem_toArray, List.getElem_cons_succ, List.getElem_cons_zero]); go_simp <;> (try with_reducible rfl))
        try simp only [Act.put, List.getElem_toArray, List.getElem_cons_succ, List.getElem_cons_zero, List.setIfInBounds_toArray, List.set_cons_zero, List.set_cons_succ]
        refine wpAnyH_ready (rs := [9]) (by kernel_rfl) (by simp) ?_
        refine AllReadyH.cons rfl (fun K hK => ?_) AllReadyH.nil
        go_simp
        refine (HNAM.out _ hHeld.1).mono ?_; rintro e wy ⟨yA, yn, yc, rfl, hby, HEQ⟩
        go_wp2_with fail
        refine hK.out _ _ (by first | exact HK0.out | assumption | exact HKK.out _ _ (by assumption) (by assumption) | exact HKK.out _ _ (by assumption) (below_dr _ _)) (fun hNew => ?_)
        clear hK K hHeld
        have hHeld := hNew
        clear hNew
        try simp only [Act.put, List.setIfInBounds_toArray, List.set_cons_zero, List.set_cons_succ]
        refine wpAnyH_ready (rs := [14]) (by kernel_rfl) (by simp) ?_
        refine AllReadyH.cons rfl (fun K hK => ?_) AllReadyH.nil
        go_simp
        refine (HLF.out _).mono ?_; rintro e wy ⟨rfl, rfl⟩
        go_wp2_with fail
        refine hK.out _ _ (by first | exact HK0.out | assumption | exact HKK.out _ _ (by assumption) (by assumption) | exact HKK.out _ _ (by assumption) (below_dr _ _)) (fun hNew => ?_)
        clear hK K hHeld
        have hHeld := hNew
        clear hNew
        try simp only [Act.put, List.setIfInBounds_toArray, List.set_cons_zero, List.set_cons_succ]
        refine wpAnyH_ready (rs := [15]) (by kernel_rfl) (by simp) ?_
        refine AllReadyH.cons rfl (fun K hK => ?_) AllReadyH.nil
        go_simp
        refine hK.out _ _ (by first | exact HK0.out | assumption | exact HKK.out _ _ (by assumption) (by assumption) | exact HKK.out _ _ (by assumption) (below_dr _ _)) (fun hNew => ?_)
        clear hK K hHeld
        have hHeld := hNew
        clear hNew
        try simp only [Act.put, List.setIfInBounds_toArray, List.set_cons_zero, List.set_cons_succ]
        refine wpAnyH_take (i := 16) (v := ?_) rfl (by kernel_rfl) (by kernel_rfl) (by kernel_rfl) (fun _ _ _ h => h) (Or.inl ⟨by rfl, ?_⟩) (by assumption) ?_
        rotate_left 1
        · (intro w hSw; (try dsimp only at hSw); (try simp only [List.getElem_toArray, List.getElem_cons_succ, List.getElem_cons_zero]); go_simp <;> (try with_reducible rfl))
        try simp only [Act.put, List.getElem_toArray, List.getElem_cons_succ, List.getElem_cons_zero, List.setIfInBounds_toArray, List.set_cons_zero, List.set_cons_succ]
        refine wpAnyH_ready (rs := [17]) (by kernel_rfl) (by simp) ?_
        refine AllReadyH.cons rfl (fun K hK => ?_) AllReadyH.nil
        go_simp
        refine (HEQ.out _ (Below.refl _ _)).mono ?_; rintro e wy ⟨rfl, yq, rfl⟩
        go_wp2_with fail
        refine hK.out _ _ (by first | exact HK0.out | assumption | exact HKK.out _ _ (by assumption) (by assumption) | exact HKK.out _ _ (by assumption) (below_dr _ _)) (fun hNew => ?_)
        clear hK K hHeld
        have hHeld := hNew
        clear hNew
        try simp only [Act.put, List.setIfInBounds_toArray, List.set_cons_zero, List.set_cons_succ]
        refine wpAnyH_take (i := 18) (v := ?_) rfl (by kernel_rfl) (by kernel_rfl) (by kernel_rfl) (fun _ _ _ h => h) (Or.inl ⟨by rfl, ?_⟩) (by assumption) ?_
        rotate_left 1
        · (intro w hSw; (try dsimp only at hSw); (try simp only [List.getElem_toArray, List.getElem_cons_succ, List.getElem_cons_zero]); go_simp <;> (try with_reducible rfl))
        try simp only [Act.put, List.getElem_toArray, List.getElem_cons_succ, List.getElem_cons_zero, List.setIfInBounds_toArray, List.set_cons_zero, List.set_cons_succ]
        refine wpAnyH_take (i := 19) (v := ?_) rfl (by kernel_rfl) (by kernel_rfl) (by kernel_rfl) (fun _ _ _ h => h) (Or.inl ⟨by rfl, ?_⟩) (by assumption) ?_
        rotate_left 1
        · (intro w hSw; (try dsimp only at hSw); (try simp only [List.getElem_toArray, List.getElem_cons_succ, List.getElem_cons_zero]); go_simp <;> (try with_reducible rfl))
        try simp only [Act.put, List.getElem_toArray, List.getElem_cons_succ, List.getElem_cons_zero, List.setIfInBounds_toArray, List.set_cons_zero, List.set_cons_succ]
        refine wpAnyH_done (by kernel_rfl) ?_ _
        refine NoPanic.normal ?_
        go_wp2_with fail
        go_ret
        exact ⟨rfl, hback.out _ (HWB.out _ (K9.out.below.trans (hHeld.1.mono K9.out.below.size)))⟩
      · go_wp2_with fail
        refine HPO.out.mono ?_
        rintro e wq ⟨rfl, rfl⟩
        obtain ⟨rl, hrl⟩ : ∃ k, t.row.length = k := ⟨_, rfl⟩
        have HPE : Hid (Calls Try.prog 21 #[.pointer (some ⟨d, 0, none⟩)] w6 fun e w' => e = .returned (.int .i64 (rl : Nat)) ∧ w6 = w') := Lib.hid (by have h := pending_any (Lib.hid K6.out.at_); rw [hrl] at h; exact h)
        obtain ⟨s1, s2⟩ := Disk.rows_step HF6.out.good HSTEP.out
        rw [← R6.out.names.len, hrl] at s1
        rw [hrl] at s2
        have HS2 : Hid (s.rows.take rl ++ [t.names] = t.rows) := Lib.hid (by rw [← s2]; unfold Disk.St.names; rw [if_pos HON6.out])
        clear s2 hrl HPO
        obtain ⟨vl, hvl⟩ : ∃ k, k = vs.length := ⟨_, rfl⟩
        rw [← hvl] at s1 hvc
        rw [← hvl]
        have HVL := Lib.hid hvl
        have hvb : vl ≤ 1099511627776 := by have h1 := R6.out.names.len; rw [Disk.rows_len] at h1; have := HS.out.2.2.2.2; omega
        clear hvl
        go_wp2_with fail
        refine HPE.out.mono ?_
        rintro e wq ⟨rfl, rfl⟩
        have hsl := fun (W : World) => run_slice_tight (P := Try.prog) (w := W) stNames (some ⟨g, off, none⟩) vl cap rl (by omega)
        have HMT := Lib.hid (R6.out.mid.cutTo (n := rl) (by rw [← HVL.out]; exact s1))
        have HNM : Hid (∀ W, Below w6.heap.size w6 W → Calls Try.prog 17 #[.pointer (some ⟨d, 0, none⟩)] W fun e w' => ∃ A n c, e = .returned (.slice A n c) ∧ Own Rep.str 9 w' W.heap.size nob (.slice A n c) (t.names.map ba) ∧ Below W.heap.size W w') := Lib.hid fun W hW => by
          refine (diskNames_any (Lib.hid (K6.out.far hW).at_) HF6).mono ?_
          rintro e w' ⟨A, n, c, rfl, -, -, -, ho, hb⟩
          exact ⟨A, n, c, rfl, ho, hb⟩
        have htl : Hid (rl = (vs.take rl).length) := Lib.hid (by rw [List.length_take, ← HVL.out]; omega)
        clear HPE
        go_upto_region 20 with fail
        go_region_law (first
          | (refine step_call_law rfl 17 #[.tmp 82] #[28] rfl enters_names #[.pointer (some ⟨d, 0, none⟩)] (by simp [Act.eval, Act.put]) _ (HNM.out _ ⟨rfl, rfl, rfl, Nat.le_refl _, fun _ _ => rfl⟩) ?_; rintro e w10 ⟨yA, yn, yc, rfl, hown, hb10⟩; have HOWN := Lib.hid hown; have HB10 : Hid (Below w6.heap.size w6 w10) := Lib.hid ⟨hb10.os, hb10.tape, hb10.output, hb10.size, hb10.block⟩; clear hown hb10; refine ⟨_, rfl, ?_⟩)
          | (refine step_append_Mid rfl (.tmp 81) (.tmp 84) 52 rfl 43 24 stNames w2.heap.size g off rl rl (vs.take rl) htl.out ((HMT.out.far HB10.out).far (Below.alloc (Below.refl _ _) (Nat.le_refl _) _)) (by simp [Act.eval, Act.put]) ⟨w10.heap.size, 0, none⟩ 1 (.slice yA yn yc) (by simp [Act.eval, Act.put]) ((cell_of_row _ _ 0 _ _ (0, 0) (heap_alloc_new w10 _)).trans rfl) rfl (by omega) (by omega) (by have := K6.out.below.size; have := HB10.out.size; simp; omega) ?_; intro g3 off3 cap3 w13 hm3 hg3 hat3; have HM3 := Lib.hid hm3; have HG3 := Lib.hid hg3; have HAT3 := Lib.hid hat3; clear hm3 hg3 hat3)
          | fail)
        all_goals
          obtain ⟨R9, K9⟩ := R6.out.append K6.out (l := t.names) (show rl ≤ vs.length by rw [← HVL.out]; exact s1) HB10.out HOWN.out _ HM3.out HG3.out HAT3.out
          rw [HS2.out] at R9
          have HR9 := Lib.hid R9
          have HK9 := Lib.hid K9
          have hln : Hid (rl + 1 = (vs.take rl ++ [Value.slice yA yn yc]).length) := Lib.hid (by rw [List.length_append, ← htl.out]; rfl)
          have hl3 := HM3.out.len
          have hm3 := HM3.out.max
          rw [← hln.out] at hl3
          have hm4 : cap3 ≤ 9223372036854775807 := by simpa [maxLen] using Nat.le_trans hm3 (by simp [maxLen])
          clear R9 K9
          go_wp2_with fail
          go_roundg (m - (j + 1))
          case measure => omega
          case rel => exact ⟨j + 1, F6, t, g3, off3, cap3, _, rfl, by omega, by go_num, by rw [← hln.out], by rw [← hln.out]; exact hl3, hm4, HK9, HF6, HS6, HON6, HR9⟩
    · obtain rfl : j = m := by omega
      obtain ⟨rl, hrl⟩ : ∃ k, s.row.length = k := ⟨_, rfl⟩
      have HPE : Hid (∀ W F t, Kd w2 W F d t → t.row = s.row → Calls Try.prog 21 #[.pointer (some ⟨d, 0, none⟩)] W fun e w' => e = .returned (.int .i64 (rl : Nat)) ∧ W = w') := Lib.hid fun W F t hK ht => by have h := pending_any (Lib.hid hK.at_); rw [ht, hrl] at h; exact h
      have hvl : vs.length = rl + 1 := by rw [HR.out.names.len, Disk.rows_len, hrl]
      have HRL := Lib.hid hrl
      clear hrl
      obtain ⟨vl, hvl2⟩ : ∃ k, k = vs.length := ⟨_, rfl⟩
      rw [← hvl2] at hvl hvc
      rw [← hvl2]
      have HVL := Lib.hid hvl2
      clear hvl2
      go_wp2_with fail
      refine (HPE.out _ _ _ HK.out rfl).mono ?_
      rintro e wq ⟨rfl, rfl⟩
      go_wp2_with fail
      refine (off_any (Lib.hid HK.out.at_)).mono ?_
      rintro e w7 ⟨rfl, hd7, ho7⟩
      have K7 := Lib.hid (HK.out.next (hd7.up (fun _ hb => .inl hb) (grow_lt HK.out.at_.lt ho7.size)) ho7)
      have R7 := Lib.hid (HR.out.call ho7)
      have HF7 : Hid (Disk.Fine s.off) := Lib.hid (Disk.fine_act HF.out .off)
      obtain ⟨F7, hF7⟩ : ∃ X, X = grow F wr w7 := ⟨_, rfl⟩
      rw [← hF7] at K7 R7
      clear hd7 ho7 hF7
      go_wp2_with fail
      refine (diskNames_any (Lib.hid K7.out.at_) HF7).mono ?_
      rintro e w8 ⟨XA, xn, xc, rfl, hxn, -, -, -, hb8⟩
      obtain rfl : xn = 0 := by rw [hxn.out]; rfl
      have K8 := Lib.hid (K7.out.far hb8)
      have R8 := Lib.hid (R7.out.below hb8)
      clear hxn hb8
      go_wp2_with fail
      refine (HPE.out _ _ _ K8.out rfl).mono ?_
      rintro e wq ⟨rfl, rfl⟩
      obtain ⟨c0, c1, c2, c3, c4⟩ := five (hbx.out w8 (HWB.out w8 K8.out.below))
      go_wp2_with fail
      refine (start_off dir none 0 0 [] nob (Lib.hid K8.out.at_) HF7 rfl (Lib.hid rfl) (Lib.hid (SliceAt.nil _ _ _)) (Lib.hid fun _ h => h.elim) (by omega) (by show s.row.length ≤ _; have := HS.out.2.2.2.2; omega)).mono ?_
      rintro e w9 ⟨rfl, hd9, ho9⟩
      have K9 := Lib.hid (K8.out.next hd9 ho9)
      have R9 := Lib.hid (R8.out.call ho9)
      have HF9 : Hid (Disk.Fine (s.off.start dir [])) := Lib.hid (Disk.fine_act HF7.out (.start dir []))
      obtain ⟨q1, q2, q3⟩ := Disk.names_start (s := s.off) dir [] rfl
      obtain ⟨t, ht⟩ : ∃ t, t = s.off.start dir [] := ⟨_, rfl⟩
      rw [← ht] at K9 HF9 q1 q2 q3
      obtain ⟨ix, hix⟩ : ∃ k, k = Disk.St.left dir rl := ⟨_, rfl⟩
      have hixl : ix ≤ rl := by rw [hix]; unfold Disk.St.left; omega
      have q4 : some t.names = s.rows[ix]? := by rw [hix, ← HRL.out]; exact q3
      obtain ⟨F9, hF9⟩ : ∃ X, X = grow F7 w8 w9 := ⟨_, rfl⟩
      rw [← hF9] at K9 R9
      have hixv : ix < vs.length := by rw [← HVL.out]; omega
      obtain ⟨v, hv⟩ : ∃ v, v = vs[ix] := ⟨_, rfl⟩
      have hcell := R9.out.mid.cell hixv
      rw [← hv] at hcell
      have hvo := R9.out.names.own ix v t.names (by rw [hv]; exact List.getElem?_eq_getElem hixv) q4.symm
      obtain ⟨RA, rn, rc, rfl, hrn, -, -⟩ := hvo.form
      obtain ⟨A9, c9', he9, hrs⟩ := hvo.slice
      simp only [Value.slice.injEq] at he9
      obtain ⟨rfl, -, rfl⟩ := he9
      have hrs2 := hrs.up (S' := fun b => b < w9.heap.size) fun b hb => hb.elim (fun h => h.2.1) fun h => h.elim
      have HPOW : Hid (∀ W, Below w9.heap.size w9 W → Calls Try.prog 12 #[.pointer (some ⟨d, 0, none⟩)] W fun e w' => e = .returned (.bool true) ∧ W = w') := Lib.hid fun W hW => by have h := power_any (Lib.hid (K9.out.far hW).at_); rw [q1] at h; exact h
      have HPEN : Hid (∀ W, Below w9.heap.size w9 W → Calls Try.prog 21 #[.pointer (some ⟨d, 0, none⟩)] W fun e w' => e = .returned (.int .i64 0) ∧ W = w') := Lib.hid fun W hW => by have h := pending_any (Lib.hid (K9.out.far hW).at_); rw [q2] at h; exact h
      have HNAM : Hid (∀ W, Below w9.heap.size w9 W → Calls Try.prog 17 #[.pointer (some ⟨d, 0, none⟩)] W fun e w' => ∃ A n c, e = .returned (.slice A n c) ∧ Below W.heap.size W w' ∧ Hid (∀ W', Below w'.heap.size w' W' → Calls Try.prog 22 #[.slice A n c, .slice RA rn rc] W' fun e w2 => e = .returned (.bool true) ∧ ∃ n, w2 = W'.drewN n)) := Lib.hid fun W hW => by
        refine (diskNames_any (Lib.hid (K9.out.far hW).at_) HF9).mono ?_
        rintro e w' ⟨A, n, c, rfl, hn, -, -, ho, hb⟩
        refine ⟨A, n, c, rfl, hb, Lib.hid fun W' hW' => ?_⟩
        obtain ⟨A1, c1', he1, hs1⟩ := ho.slice
        simp only [Value.slice.injEq] at he1
        obtain ⟨rfl, -, rfl⟩ := he1
        have hs2 := hs1.keep (S' := fun b => b < w'.heap.size) (fun b hb => hb.elim (fun h => h.2.1) fun h => h.elim) (Same.of_below hW' fun b hb => hb.elim (fun h => h.2.1) fun h => h.elim)
        have hr2 := hrs2.keep (fun _ h => h) (Same.of_below (hW.trans ((hb.mono hW.size).trans (hW'.mono (Nat.le_trans hW.size hb.size)))) fun _ h => h)
        have k := eqTexts A RA c rc (t.names.map ba) (t.names.map ba) W' _ _ hs2 hr2
        rw [show (t.names.map ba).length = n from by rw [hn.out, List.length_map]] at k
        rw [show rn = n from by rw [hrn.out, hn.out, List.length_map]]
        refine k.mono ?_
        rintro e w2 ⟨rfl, q⟩
        exact ⟨by simp, q⟩
      have HKK : Hid (∀ W W', (Below w9.heap.size w9 W ∧ W.cell? ⟨w.heap.size, 3, none⟩ = some (.int .i64 dir) ∧ W.cell? ⟨g, off + ix, none⟩ = some (.slice RA rn rc)) → Below W.heap.size W W' → (Below w9.heap.size w9 W' ∧ W'.cell? ⟨w.heap.size, 3, none⟩ = some (.int .i64 dir) ∧ W'.cell? ⟨g, off + ix, none⟩ = some (.slice RA rn rc))) := Lib.hid fun W W' h hb =>
        ⟨h.1.trans (hb.mono h.1.size), (hb.cell (p := ⟨w.heap.size, 3, none⟩) (World.block_lt_of_cell? W _ h.2.1)).trans h.2.1, (hb.cell (p := ⟨g, off + ix, none⟩) (World.block_lt_of_cell? W _ h.2.2)).trans h.2.2⟩
      obtain ⟨c0, c1, c2, c3, c4⟩ := five (hbx.out w9 (HWB.out w9 K9.out.below))
      have HK0 : Hid (Below w9.heap.size w9 w9.drew ∧ w9.drew.cell? ⟨w.heap.size, 3, none⟩ = some (.int .i64 dir) ∧ w9.drew.cell? ⟨g, off + ix, none⟩ = some (.slice RA rn rc)) := Lib.hid ⟨⟨rfl, rfl, rfl, Nat.le_refl _, fun _ _ => rfl⟩, c3, hcell⟩
      have HLF : Hid (∀ W, Calls Try.prog 23 #[.int .i64 dir, .int .i64 (rl : Nat)] W fun e w' => e = .returned (.int .i64 (ix : Nat)) ∧ w' = W) := Lib.hid fun W => by rw [hix]; exact left_any dir rl W
      have hixb : ix < vl := by omega
      have hixi : (ix : Int) < (vl : Int) := by omega
      have hix0 : (0 : Int) ≤ (ix : Int) := by omega
      have hixj : (ix : Int) < (rl : Int) + 1 := by omega
      clear hd9 ho9 q1 q2 q3 q4 ht hix hF9 hv hcell hvo hrn hrs hrs2
      go_wp2_with fail
      refine wp_region_noPanic ?_
      refine wp_region_held_drew (S := (fun W => Below w9.heap.size w9 W ∧ W.cell? ⟨w.heap.size, 3, none⟩ = some (.int .i64 dir) ∧ W.cell? ⟨g, off + ix, none⟩ = some (.slice RA rn rc))) (by kernel_rfl) HK0.out (fun hHeld => ?_)
      refine wpAnyH_take (i := 0) (v := ?_) rfl (by kernel_rfl) (by kernel_rfl) (by kernel_rfl) (fun _ _ _ h => h) (Or.inl ⟨by rfl, ?_⟩) (by assumption) ?_
      rotate_left 1
      · (intro w hSw; (try dsimp only at hSw); (try simp only [List.getElem_toArray, List.getElem_cons_succ, List.getElem_cons_zero]); go_simp <;> (try with_reducible rfl))
      try simp only [Act.put, List.getElem_toArray, List.getElem_cons_succ, List.getElem_cons_zero, List.setIfInBounds_toArray, List.set_cons_zero, List.set_cons_succ]
      refine wpAnyH_ready (rs := [1]) (by kernel_rfl) (by simp) ?_
      refine AllReadyH.cons rfl (fun K hK => ?_) AllReadyH.nil
      go_simp
      refine (HPOW.out _ hHeld.1).mono ?_; rintro e wy ⟨rfl, rfl⟩
      go_wp2_with fail
      refine hK.out _ _ (by first | exact HK0.out | assumption | exact HKK.out _ _ (by assumption) (by assumption) | exact HKK.out _ _ (by assumption) (below_dr _ _)) (fun hNew => ?_)
      clear hK K hHeld
      have hHeld := hNew
      clear hNew
      try simp only [Act.put, List.setIfInBounds_toArray, List.set_cons_zero, List.set_cons_succ]
      refine wpAnyH_take (i := 2) (v := ?_) rfl (by kernel_rfl) (by kernel_rfl) (by kernel_rfl) (fun _ _ _ h => h) (Or.inl ⟨by rfl, ?_⟩) (by assumption) ?_
      rotate_left 1
      · (intro w hSw; (try dsimp only at hSw); (try simp only [List.getElem_toArray, List.getElem_cons_succ, List.getElem_cons_zero]); go_simp <;> (try with_reducible rfl))
      try simp only [Act.put, List.getElem_toArray, List.getElem_cons_succ, List.getElem_cons_zero, List.setIfInBounds_toArray, List.set_cons_zero, List.set_cons_succ]
      refine wpAnyH_take (i := 3) (v := ?_) rfl (by kernel_rfl) (by kernel_rfl) (by kernel_rfl) (fun _ _ _ h => h) (Or.inl ⟨by rfl, ?_⟩) (by assumption) ?_
      rotate_left 1
      · (intro w hSw; (try dsimp only at hSw); (try simp only [List.getElem_toArray, List.getElem_cons_succ, List.getElem_cons_zero]); go_simp <;> (try with_reducible rfl))
      try simp only [Act.put, List.getElem_toArray, List.getElem_cons_succ, List.getElem_cons_zero, List.setIfInBounds_toArray, List.set_cons_zero, List.set_cons_succ]
      refine wpAnyH_ready (rs := [4]) (by kernel_rfl) (by simp) ?_
      refine AllReadyH.cons rfl (fun K hK => ?_) AllReadyH.nil
      go_simp
      refine (HPEN.out _ hHeld.1).mono ?_; rintro e wy ⟨rfl, rfl⟩
      go_wp2_with fail
      refine hK.out _ _ (by first | exact HK0.out | assumption | exact HKK.out _ _ (by assumption) (by assumption) | exact HKK.out _ _ (by assumption) (below_dr _ _)) (fun hNew => ?_)
      clear hK K hHeld
      have hHeld := hNew
      clear hNew
      try simp only [Act.put, List.setIfInBounds_toArray, List.set_cons_zero, List.set_cons_succ]
      refine wpAnyH_take (i := 5) (v := ?_) rfl (by kernel_rfl) (by kernel_rfl) (by kernel_rfl) (fun _ _ _ h => h) (Or.inl ⟨by rfl, ?_⟩) (by assumption) ?_
      rotate_left 1
      · (intro w hSw; (try dsimp only at hSw); (try simp only [List.getElem_toArray, List.getElem_cons_succ, List.getElem_cons_zero]); go_simp <;> (try with_reducible rfl))
      try simp only [Act.put, List.getElem_toArray, List.getElem_cons_succ, List.getElem_cons_zero, List.setIfInBounds_toArray, List.set_cons_zero, List.set_cons_succ]
      refine wpAnyH_take (i := 6) (v := ?_) rfl (by kernel_rfl) (by kernel_rfl) (by kernel_rfl) (fun _ _ _ h => h) (Or.inl ⟨by rfl, ?_⟩) (by assumption) ?_
      rotate_left 1
      · (intro w hSw; (try dsimp only at hSw); (try simp only [List.getElem_toArray, List.getElem_cons_succ, List.getElem_cons_zero]); go_simp <;> (try with_reducible rfl))
      try simp only [Act.put, List.getElem_toArray, List.getElem_cons_succ, List.getElem_cons_zero, List.setIfInBounds_toArray, List.set_cons_zero, List.set_cons_succ]
      refine wpAnyH_take (i := 7) (v := ?_) rfl (by kernel_rfl) (by kernel_rfl) (by kernel_rfl) (fun _ _ _ h => h) (Or.inl ⟨by rfl, ?_⟩) (by assumption) ?_
      rotate_left 1
      · (intro w hSw; (try dsimp only at hSw); (try simp only [List.getElem_toArray, List.getElem_cons_succ, List.getElem_cons_zero]); go_simp <;> (try with_reducible rfl))
      try simp only [Act.put, List.getElem_toArray, List.getElem_cons_succ, List.getElem_cons_zero, List.setIfInBounds_toArray, List.set_cons_zero, List.set_cons_succ]
      refine wpAnyH_take (i := 8) (v := ?_) rfl (by kernel_rfl) (by kernel_rfl) (by kernel_rfl) (fun _ _ _ h => h) (Or.inl ⟨by rfl, ?_⟩) (by assumption) ?_
      rotate_left 1
      · (intro w hSw; (try dsimp only at hSw); (try simp only [List.getElem_toArray, List.getElem_cons_succ, List.getElem_cons_zero]); go_simp <;> (try with_reducible rfl))
      try simp only [Act.put, List.getElem_toArray, List.getElem_cons_succ, List.getElem_cons_zero, List.setIfInBounds_toArray, List.set_cons_zero, List.set_cons_succ]
      refine wpAnyH_take (i := 10) (v := ?_) rfl (by kernel_rfl) (by kernel_rfl) (by kernel_rfl) (fun _ _ _ h => h) (Or.inl ⟨by rfl, ?_⟩) (by assumption) ?_
      rotate_left 1
      · (intro w hSw; (try dsimp only at hSw); (try simp only [List.getElem_toArray, List.getElem_cons_succ, List.getElem_cons_zero]); go_simp <;> (try with_reducible rfl))
      try simp only [Act.put, List.getElem_toArray, List.getElem_cons_succ, List.getElem_cons_zero, List.setIfInBounds_toArray, List.set_cons_zero, List.set_cons_succ]
      refine wpAnyH_take (i := 11) (v := ?_) rfl (by kernel_rfl) (by kernel_rfl) (by kernel_rfl) (fun _ _ _ h => h) (Or.inl ⟨by rfl, ?_⟩) (by assumption) ?_
      rotate_left 1
      · (intro w hSw; (try dsimp only at hSw); (try simp only [List.getElem_toArray, List.getElem_cons_succ, List.getElem_cons_zero]); go_simp <;> (try with_reducible rfl))
      try simp only [Act.put, List.getElem_toArray, List.getElem_cons_succ, List.getElem_cons_zero, List.setIfInBounds_toArray, List.set_cons_zero, List.set_cons_succ]
      refine wpAnyH_take (i := 12) (v := ?_) rfl (by kernel_rfl) (by kernel_rfl) (by kernel_rfl) (fun _ _ _ h => h) (Or.inl ⟨by rfl, ?_⟩) (by assumption) ?_
      rotate_left 1
      · (intro w hSw; (try dsimp only at hSw); (try simp only [List.getElem_toArray, List.getElem_cons_succ, List.getElem_cons_zero]); go_simp <;> (try with_reducible rfl))
      try simp only [Act.put, List.getElem_toArray, List.getElem_cons_succ, List.getElem_cons_zero, List.setIfInBounds_toArray, List.set_cons_zero, List.set_cons_succ]
      refine wpAnyH_take (i := 13) (v := ?_) rfl (by kernel_rfl) (by kernel_rfl) (by kernel_rfl) (fun _ _ _ h => h) (Or.inl ⟨by rfl, ?_⟩) (by assumption) ?_
      rotate_left 1
      · (intro w hSw; (try dsimp only at hSw); (try simp only [List.getElem_toArray, List.getElem_cons_succ, List.getElem_cons_zero]); go_simp <;> (try with_reducible rfl))
      try simp only [Act.put, List.getElem_toArray, List.getElem_cons_succ, List.getElem_cons_zero, List.setIfInBounds_toArray, List.set_cons_zero, List.set_cons_succ]
      refine wpAnyH_ready (rs := [9]) (by kernel_rfl) (by simp) ?_
      refine AllReadyH.cons rfl (fun K hK => ?_) AllReadyH.nil
      go_simp
      refine (HNAM.out _ hHeld.1).mono ?_; rintro e wy ⟨yA, yn, yc, rfl, hby, HEQ⟩
      go_wp2_with fail
      refine hK.out _ _ (by first | exact HK0.out | assumption | exact HKK.out _ _ (by assumption) (by assumption) | exact HKK.out _ _ (by assumption) (below_dr _ _)) (fun hNew => ?_)
      clear hK K hHeld
      have hHeld := hNew
      clear hNew
      try simp only [Act.put, List.setIfInBounds_toArray, List.set_cons_zero, List.set_cons_succ]
      refine wpAnyH_ready (rs := [14]) (by kernel_rfl) (by simp) ?_
      refine AllReadyH.cons rfl (fun K hK => ?_) AllReadyH.nil
      go_simp
      refine (HLF.out _).mono ?_; rintro e wy ⟨rfl, rfl⟩
      go_wp2_with fail
      refine hK.out _ _ (by first | exact HK0.out | assumption | exact HKK.out _ _ (by assumption) (by assumption) | exact HKK.out _ _ (by assumption) (below_dr _ _)) (fun hNew => ?_)
      clear hK K hHeld
      have hHeld := hNew
      clear hNew
      try simp only [Act.put, List.setIfInBounds_toArray, List.set_cons_zero, List.set_cons_succ]
      refine wpAnyH_ready (rs := [15]) (by kernel_rfl) (by simp) ?_
      refine AllReadyH.cons rfl (fun K hK => ?_) AllReadyH.nil
      go_simp
      refine hK.out _ _ (by first | exact HK0.out | assumption | exact HKK.out _ _ (by assumption) (by assumption) | exact HKK.out _ _ (by assumption) (below_dr _ _)) (fun hNew => ?_)
      clear hK K hHeld
      have hHeld := hNew
      clear hNew
      try simp only [Act.put, List.setIfInBounds_toArray, List.set_cons_zero, List.set_cons_succ]
      refine wpAnyH_take (i := 16) (v := ?_) rfl (by kernel_rfl) (by kernel_rfl) (by kernel_rfl) (fun _ _ _ h => h) (Or.inl ⟨by rfl, ?_⟩) (by assumption) ?_
      rotate_left 1
      · (intro w hSw; (try dsimp only at hSw); (try simp only [List.getElem_toArray, List.getElem_cons_succ, List.getElem_cons_zero]); go_simp <;> (try with_reducible rfl))
      try simp only [Act.put, List.getElem_toArray, List.getElem_cons_succ, List.getElem_cons_zero, List.setIfInBounds_toArray, List.set_cons_zero, List.set_cons_succ]
      refine wpAnyH_ready (rs := [17]) (by kernel_rfl) (by simp) ?_
      refine AllReadyH.cons rfl (fun K hK => ?_) AllReadyH.nil
      go_simp
      refine (HEQ.out _ (Below.refl _ _)).mono ?_; rintro e wy ⟨rfl, yq, rfl⟩
      go_wp2_with fail
      refine hK.out _ _ (by first | exact HK0.out | assumption | exact HKK.out _ _ (by assumption) (by assumption) | exact HKK.out _ _ (by assumption) (below_dr _ _)) (fun hNew => ?_)
      clear hK K hHeld
      have hHeld := hNew
      clear hNew
      try simp only [Act.put, List.setIfInBounds_toArray, List.set_cons_zero, List.set_cons_succ]
      refine wpAnyH_take (i := 18) (v := ?_) rfl (by kernel_rfl) (by kernel_rfl) (by kernel_rfl) (fun _ _ _ h => h) (Or.inl ⟨by rfl, ?_⟩) (by assumption) ?_
      rotate_left 1
      · (intro w hSw; (try dsimp only at hSw); (try simp only [List.getElem_toArray, List.getElem_cons_succ, List.getElem_cons_zero]); go_simp <;> (try with_reducible rfl))
      try simp only [Act.put, List.getElem_toArray, List.getElem_cons_succ, List.getElem_cons_zero, List.setIfInBounds_toArray, List.set_cons_zero, List.set_cons_succ]
      refine wpAnyH_take (i := 19) (v := ?_) rfl (by kernel_rfl) (by kernel_rfl) (by kernel_rfl) (fun _ _ _ h => h) (Or.inl ⟨by rfl, ?_⟩) (by assumption) ?_
      rotate_left 1
      · (intro w hSw; (try dsimp only at hSw); (try simp only [List.getElem_toArray, List.getElem_cons_succ, List.getElem_cons_zero]); go_simp <;> (try with_reducible rfl))
      try simp only [Act.put, List.getElem_toArray, List.getElem_cons_succ, List.getElem_cons_zero, List.setIfInBounds_toArray, List.set_cons_zero, List.set_cons_succ]
      refine wpAnyH_done (by kernel_rfl) ?_ _
      refine NoPanic.normal ?_
      go_wp2_with fail
      go_ret
      exact ⟨rfl, hback.out _ (HWB.out _ (K9.out.below.trans (hHeld.1.mono K9.out.below.size)))⟩
end
end Go.Proofs.Ytignnohjggjkoaa
