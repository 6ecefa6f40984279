/- Texts that lead to the claim, one behind the other: A number from 0 to most: the walk of galleyref03.Left. No conditions. | Where the folder is synced a loss of power leaves all files, each with its synced bytes and as much more as is said: the walk of galleylaw03.DiskTails. Condition: what is handed in lies within reach. -/
import Derived.Test.YtignnohjggjkoaaTa23
import Derived.Test.YtignnohjggjkoaaTa44
import Derived.Test.YtignnohjggjkoaaTa45
import Derived.Test.YtignnohjggjkoaaTa3
namespace Go.Proofs.Ytignnohjggjkoaa
open Go.RowKit Go.ChangeShapes Go.WideShapes Go.Deep
theorem left_any (n : Int) (most : Nat) (w : World) : Calls Try.prog 23 #[.int .i64 n, .int .i64 most] w fun e w' => e = .returned (.int .i64 (Disk.St.left n most : Nat)) ∧ w' = w := by
  rcases (show n < 0 ∨ (0 ≤ n ∧ (most : Int) < n) ∨ (0 ≤ n ∧ n ≤ most) from by omega) with h | ⟨h0, h⟩ | ⟨h0, h⟩
  · have he : (Disk.St.left n most : Int) = 0 := by unfold Disk.St.left; omega
    rw [he]
    clear he
    go_enter Try.func23, Try.ntmps23
    go_wp2_with fail
    go_ret
    exact ⟨rfl, rfl⟩
  · have he : (Disk.St.left n most : Int) = most := by unfold Disk.St.left; omega
    rw [he]
    clear he
    go_enter Try.func23, Try.ntmps23
    go_wp2_with fail
    go_ret
    exact ⟨rfl, rfl⟩
  · have he : (Disk.St.left n most : Int) = n := by unfold Disk.St.left; omega
    rw [he]
    clear he
    go_enter Try.func23, Try.ntmps23
    go_wp2_with fail
    go_ret
    exact ⟨rfl, rfl⟩
end Go.Proofs.Ytignnohjggjkoaa
namespace Go.Proofs.Ytignnohjggjkoaa
open Go.RowKit Go.ChangeShapes Go.WideShapes Go.Deep

theorem five {wr : World} {b : Nat} {v0 v1 v2 v3 v4 : Value} {t : TypeId} (h : wr.heap[b]? = some (.cells #[v0, v1, v2, v3, v4] t (0, 0))) :
    wr.cell? ⟨b, 0, none⟩ = some v0 ∧ wr.cell? ⟨b, 1, none⟩ = some v1 ∧ wr.cell? ⟨b, 2, none⟩ = some v2 ∧ wr.cell? ⟨b, 3, none⟩ = some v3 ∧ wr.cell? ⟨b, 4, none⟩ = some v4 :=
  ⟨(cell_of_row _ _ 0 _ _ (0, 0) h).trans rfl, (cell_of_row _ _ 1 _ _ (0, 0) h).trans rfl, (cell_of_row _ _ 2 _ _ (0, 0) h).trans rfl, (cell_of_row _ _ 3 _ _ (0, 0) h).trans rfl, (cell_of_row _ _ 4 _ _ (0, 0) h).trans rfl⟩
section
variable {w : World}
set_option maxRecDepth 100000 in
set_option maxHeartbeats 8000000 in
set_option linter.unusedSimpArgs false in
theorem diskTails_law (room : Int) (fs : List Disk.Fin_) (ops : List OpV) (dir : Int) (keep : List Int) (A B KA : Option Addr) (n c m mc kn kc : Nat) (hn : Hid (n = fs.length)) (hm : Hid (m = ops.length)) (hkn : Hid (kn = keep.length)) (h1 : Hid (SliceAt Rep.fin w (under w.heap.size) A c fs)) (h2 : Hid (SliceAt Rep.op w (under w.heap.size) B mc ops)) (hk : Hid (SliceAt (Rep.int .i64) w (under w.heap.size) KA kc keep)) (_ : Hid ((Lit.int .i64 dir).wf = true))
    (hf : Hid (∀ f ∈ fs, finReach f)) (ho : Hid (∀ o ∈ ops, opReach o)) (hnb : n ≤ 281474976710656) (hmb : m ≤ 281474976710656) (_ : kn ≤ 281474976710656) :
    Calls Try.prog 6 #[.agg #[.int .i64 room, .slice A n c, .slice B m mc, .int .i64 dir, .slice KA kn kc]] w fun e w' => e = .returned (.bool true) ∧ Below w.heap.size w w' := by
  have hnc : n ≤ c := by rw [hn.out]; exact h1.out.len
  have hcm := h1.out.max
  have hmd : m ≤ mc := by rw [hm.out]; exact h2.out.len
  have hdm := h2.out.max
  have hkc : kn ≤ kc := by rw [hkn.out]; exact hk.out.len
  have hkcm := hk.out.max
  obtain ⟨W, hW⟩ : ∃ W, W = w.alloc (.cells #[.int .i64 room, .slice A n c, .slice B m mc, .int .i64 dir, .slice KA kn kc] 48) := ⟨_, rfl⟩
  have hbW : Below w.heap.size w W := by rw [hW]; exact Below.alloc (Below.refl _ _) (Nat.le_refl _) _
  have hbox : W.heap[w.heap.size]? = some (.cells #[.int .i64 room, .slice A n c, .slice B m mc, .int .i64 dir, .slice KA kn kc] 48 (0, 0)) := by rw [hW]; exact heap_alloc_new _ _
  have hwlt : w.heap.size < W.heap.size := (Array.getElem?_eq_some_iff.1 hbox).1
  have hbx : Hid (∀ wr, Below W.heap.size W wr → wr.heap[w.heap.size]? = some (.cells #[.int .i64 room, .slice A n c, .slice B m mc, .int .i64 dir, .slice KA kn kc] 48 (0, 0))) := Lib.hid fun wr ho => (ho.block _ hwlt).trans hbox
  have HSM : Hid (∀ wr, Below W.heap.size W wr → Same (under w.heap.size) w wr) := Lib.hid fun wr hb => (Same.of_below hbW fun _ h => h).trans (Same.of_below hb fun _ h => Nat.lt_trans h hwlt)
  have HBW := Lib.hid hbW
  have HWL := Lib.hid hwlt
  have H1 := Lib.hid (beyond_any (w := W) fs ops A B n c m mc (under w.heap.size) hn hm (Lib.hid (h1.out.keep (fun _ h => h) (HSM.out W (Below.refl _ _)))) (Lib.hid (h2.out.keep (fun _ h => h) (HSM.out W (Below.refl _ _)))) (Lib.hid fun b hb => Nat.lt_trans hb hwlt) hf ho hnb hmb)
  have hback : Hid (∀ wr, Below W.heap.size W wr → Below w.heap.size w wr) := Lib.hid fun wr hb => hbW.trans (hb.mono (Nat.le_of_lt hwlt))
  go_enter Try.func6, Try.ntmps6
  go_wp2_with fail
  rw [← hW]
  obtain ⟨c0, c1, c2, c3, c4⟩ := five hbox
  clear hW hbW hbox hwlt
  go_wp2_with fail
  refine H1.out.mono ?_
  rintro e w1 ⟨b, rfl, hw, hb1⟩
  have HB1 := Lib.hid hb1
  clear c0 c1 c2 c3 c4
  obtain ⟨c0, c1, c2, c3, c4⟩ := five (hbx.out w1 hb1)
  cases b
  case true =>
    clear hb1 hw
    go_wp2_with fail
    go_ret
    exact ⟨rfl, hback.out _ HB1.out⟩
  have HW := Lib.hid (hw rfl)
  clear hb1 hw H1
  by_cases hbig : 16777216 < kn
  · go_wp2_with fail
    go_ret
    exact ⟨rfl, hback.out _ HB1.out⟩
  have hkb2 : kn ≤ 16777216 := by omega
  have hmb2 : m ≤ 2147483647 := by rw [hm.out]; exact HW.out.len.2
  go_wp2_with fail
  refine lives_any.mono ?_
  rintro e w2 ⟨rfl, hb2⟩
  have HB2 : Hid (Below W.heap.size W w2) := Lib.hid (HB1.out.trans (hb2.mono HB1.out.size))
  have HFT := Lib.hid (fit_any (w := w2) room A n c fs (under w.heap.size) hn (Lib.hid (h1.out.keep (fun _ h => h) (HSM.out w2 HB2.out))) (Lib.hid fun b hb => Nat.lt_of_lt_of_le (Nat.lt_trans hb HWL.out) HB2.out.size) (Lib.hid fun f hf' => by have := (HW.out.file hf').1; omega))
  clear hb2 c0 c1 c2 c3 c4
  obtain ⟨c0, c1, c2, c3, c4⟩ := five (hbx.out w2 HB2.out)
  go_wp2_with fail
  refine HFT.out.mono ?_
  rintro e w3 (⟨-, rfl, hb3⟩ | ⟨he, d, F, rfl, hkd⟩)
  · have HB3 : Hid (Below W.heap.size W w3) := Lib.hid (HB2.out.trans (hb3.mono HB2.out.size))
    clear hb3 c0 c1 c2 c3 c4
    go_wp2_with fail
    go_ret
    exact ⟨rfl, hback.out _ HB3.out⟩
  have HK := Lib.hid hkd
  have HF0 := Lib.hid (Disk.fine_from he)
  have HS0 : Hid (Disk.Small 0 (Disk.fromSt room fs)) := Lib.hid (Disk.small_from room fs)
  clear hkd he HFT c0 c1 c2 c3 c4
  have HWB : Hid (∀ wr, Below w2.heap.size w2 wr → Below W.heap.size W wr) := Lib.hid fun wr hb => HB2.out.trans (hb.mono HB2.out.size)
  go_wp2_with fail
  go_loopg [6] m (fun q i wr => ∃ (j : Nat) (F : Blocks) (s : Disk.St), q = m - j ∧ j ≤ m ∧ i = .int .i64 j ∧ Hid (Kd w2 wr F d s) ∧ Hid (Disk.Fine s) ∧ Hid (Disk.Small j s))
  case atStart => exact ⟨0, F, _, rfl, by omega, rfl, HK, HF0, HS0⟩
  case round =>
    obtain ⟨j, F, s, rfl, hj, rfl, HK, HF, HS⟩ := hrel
    obtain ⟨c0, c1, c2, c3, c4⟩ := five (hbx.out wr (HWB.out wr HK.out.below))
    by_cases hjm : j < m
    · have hjl : j < ops.length := by rw [← hm.out]; exact hjm
      obtain ⟨g', o, cs, rfl, hg, hcs, P, pc, Q, qc, R, rc, rfl, hP, hQ, hR, hN1, hN2⟩ := h2.out.at_ (i := j) hjl
      obtain ⟨r1, r2, r3, r4, r5⟩ := HW.out.op (List.getElem_mem hjl)
      obtain ⟨ov, hov⟩ : ∃ x, x = ops[j] := ⟨_, rfl⟩
      rw [← hov] at hcs hP hQ hR hN1 hN2 r1 r2 r3 r4 r5
      obtain ⟨nm, hnm⟩ : ∃ nm : ByteArray, nm = ⟨ov.name.toArray⟩ := ⟨_, rfl⟩
      obtain ⟨nt, hnt⟩ : ∃ nm : ByteArray, nm = ⟨ov.dst.toArray⟩ := ⟨_, rfl⟩
      have e1 : sv ov.name = .string nm := congrArg Value.string hnm.symm
      have e2 : sv ov.dst = .string nt := congrArg Value.string hnt.symm
      obtain ⟨kb, hkb'⟩ : ∃ k', k' = ov.b.length := ⟨_, rfl⟩
      obtain ⟨kf, hkf⟩ : ∃ k', k' = ov.faults.length := ⟨_, rfl⟩
      obtain ⟨kk, hkk⟩ : ∃ k', k' = ov.keep.length := ⟨_, rfl⟩
      have hact : ∀ W, Kd w2 W F d s → Calls Try.prog 20 #[.pointer (some ⟨d, 0, none⟩), .agg #[.int .i64 ov.kind, sv ov.name, sv ov.dst, .slice P kb pc, .bool ov.bad, .slice Q kf qc, .int .i64 ov.n, .slice R kk rc]] W fun e w' =>
          e = .returned (.tuple #[.int .i64 (s.act ov.act).2, .bool ov.can]) ∧ Dk W w' F d (s.act ov.act).1 := fun W hW => by
        have hsm := HSM.out W (HWB.out W hW.below)
        exact act_any ov P Q R kb pc kf qc kk rc (under w.heap.size) (Lib.hid hkb') (Lib.hid hkf) (Lib.hid hkk) (Lib.hid (hP.keep (fun _ h => h) hsm)) (Lib.hid (hQ.keep (fun _ h => h) hsm)) (Lib.hid (hR.keep (fun _ h => h) hsm)) ⟨hN1, hN2⟩
          (Lib.hid fun b hb => ⟨Nat.lt_of_lt_of_le (Nat.lt_trans hb HWL.out) (HWB.out W hW.below).size, fun h => by have := hW.base b h; have := HB2.out.size; have : b < w.heap.size := hb; have := HWL.out; omega⟩) (by omega) (by omega) (by omega) (Lib.hid hW.at_) HF HS (by omega)
      have hcl : CellsAt wr g' (o + j * 8) [.int .i64 ov.kind, .string nm, .string nt, .slice P kb pc, .bool ov.bad, .slice Q kf qc, .int .i64 ov.n, .slice R kk rc] := by
        have := hcs.keep hg (HSM.out wr (HWB.out wr HK.out.below))
        rw [e1, e2, ← hkb', ← hkf, ← hkk] at this
        exact this
      obtain ⟨a0, a1, a2, a3, a4, a5, a6, a7⟩ := hcl.eight
      rw [e1, e2] at hact
      have HACT := Lib.hid hact
      obtain ⟨kd, hkd⟩ : ∃ x, x = ov.kind := ⟨_, rfl⟩
      rw [← hkd] at a0 HACT
      clear hcs hP hQ hR hN1 hN2 hact hcl hnm hnt e1 e2 hkb' hkf hkk hov r1 r2 r3 r4 r5 hg hkd
      by_cases h12 : kd = 12
      · subst h12
        go_wp2_with fail
        go_roundg (m - (j + 1))
        case measure => omega
        case rel => exact ⟨j + 1, F, s, rfl, by omega, by go_num, HK, HF, Lib.hid (Disk.small_mono HS.out (Nat.le_succ _))⟩
      by_cases h13 : kd = 13
      · subst h13
        go_wp2_with fail
        go_roundg (m - (j + 1))
        case measure => omega
        case rel => exact ⟨j + 1, F, s, rfl, by omega, by go_num, HK, HF, Lib.hid (Disk.small_mono HS.out (Nat.le_succ _))⟩
      have hb12 : (kd != 12) = true := bne_iff_ne.2 h12
      have hb13 : (kd != 13) = true := bne_iff_ne.2 h13
      have HAC := Lib.hid (HACT.out wr HK.out)
      clear h12 h13
      go_wp2_with fail
      refine HAC.out.mono ?_
      rintro e w6 ⟨rfl, hk6⟩
      have HF6 := Lib.hid (Disk.fine_act HF.out ov.act)
      have HS6 := Lib.hid (Disk.small_act HS.out ov.act)
      have K6 := Lib.hid (HK.out.next hk6.at_ hk6.only)
      clear hk6 HAC HACT a0 a1 a2 a3 a4 a5 a6 a7
      go_wp2_with fail
      go_roundg (m - (j + 1))
      case measure => omega
      case rel => exact ⟨j + 1, _, _, rfl, by omega, by go_num, K6, HF6, HS6⟩
    · obtain rfl : j = m := by omega
      obtain ⟨on, hon⟩ : ∃ b, s.on = b := ⟨_, rfl⟩
      have HPO : Hid (Calls Try.prog 12 #[.pointer (some ⟨d, 0, none⟩)] wr fun e w' => e = .returned (.bool on) ∧ wr = w') := Lib.hid (by have h := power_any (Lib.hid HK.out.at_); rw [hon] at h; exact h)
      have HON := Lib.hid hon
      clear hon
      go_upto_if 71 with (go_at_call 12; refine HPO.out.mono ?_; rintro e wq ⟨rfl, rfl⟩)
      clear c0 c1 c2 c3 c4
      go_cut [] from 71 (fun wc => ∃ (F : Blocks) (s : Disk.St), Hid (Kd w2 wc F d s) ∧ Hid (Disk.Fine s) ∧ s.row.length ≤ 1099511627776 ∧ Hid ((s.on = true ∧ s.row = []) ∨ s.on = false))
      case first =>
        cases on
        · go_wp2_with fail
          go_meet
          case rel => exact ⟨F, s, HK, HF, by have := HS.out.2.2.2.2; omega, Lib.hid (.inr HON.out)⟩
        · go_wp2_with fail
          refine (plan_any none 0 0 [] nob (Lib.hid HK.out.at_) (Lib.hid rfl) (Lib.hid (SliceAt.nil _ _ _)) (Lib.hid fun _ h => h.elim) (by omega)).mono ?_
          rintro e w7 hcall
          obtain ⟨rfl, hk7⟩ := HK.out.call hcall
          have K7 := Lib.hid hk7
          have HF7 : Hid (Disk.Fine (s.plan_ []).1) := Lib.hid (Disk.fine_act HF.out (.plan []))
          have HS7 : Hid (Disk.Small (j + 1) (s.plan_ []).1) := Lib.hid (Disk.small_act HS.out (.plan []))
          clear hcall hk7
          go_wp2_with fail
          refine (syncDir_any (Lib.hid K7.out.at_) HF7 HS7 (by omega)).mono ?_
          rintro e w8 hcall
          obtain ⟨rfl, hk8⟩ := K7.out.call hcall
          have K8 := Lib.hid hk8
          have HF8 : Hid (Disk.Fine (s.plan_ []).1.syncDir.1) := Lib.hid (Disk.fine_act HF7.out .syncDir)
          obtain ⟨q1, q2⟩ := Disk.sync_free HON.out
          have Q := Lib.hid q1
          have Q2 := Lib.hid q2
          clear hcall hk8 q1 q2
          go_wp2_with fail
          go_meet
          case rel => exact ⟨_, _, K8, HF8, by rw [Q2.out]; simp, Lib.hid (.inl ⟨Q.out, Q2.out⟩)⟩
      case rest =>
        clear HPO HON HK HF HS
        obtain ⟨F, s, HK, HF, hrl, HOO⟩ := hcut
        go_wp2_with fail
        refine (files_any (Lib.hid HK.out.at_) HF).mono ?_
        rintro e w4 ⟨fA, fn, fc, rfl, hfn, hfc, hfm, hfo, hb4⟩
        have K4 := Lib.hid (HK.out.far hb4)
        obtain ⟨-, hfs⟩ := hfo.slice
        have HFB : Hid (∀ b, btw wc.heap.size w4.heap.size b → b < w4.heap.size ∧ ¬ F b) := Lib.hid fun b hb => ⟨hb.2, fun h => by have := HK.out.at_.lt b h; have := hb.1; omega⟩
        have HFS := Lib.hid hfs
        have HFN := hfn
        clear hfs hfo hb4 hfn
        go_wp2_with fail
        obtain ⟨rl, hrl2⟩ : ∃ k, s.row.length = k := ⟨_, rfl⟩
        have HPE : Hid (Calls Try.prog 21 #[.pointer (some ⟨d, 0, none⟩)] w4 fun e w' => e = .returned (.int .i64 (rl : Nat)) ∧ w4 = w') := Lib.hid (by have h := pending_any (Lib.hid K4.out.at_); rw [hrl2] at h; exact h)
        have hz : fn = 0 ∨ rl = 0 := by
          rcases HOO.out with ⟨-, h⟩ | h
          · right; rw [← hrl2, h]; rfl
          · left; rw [HFN.out]; simp [Disk.St.files, h]
        clear hrl2
        refine HPE.out.mono ?_
        rintro e wq ⟨rfl, rfl⟩
        go_wp2_with fail
        refine (off_any (Lib.hid K4.out.at_)).mono ?_
        rintro e w7 ⟨rfl, hd7, ho7⟩
        have K7 := Lib.hid (K4.out.next (hd7.up (fun _ hb => .inl hb) (grow_lt K4.out.at_.lt ho7.size)) ho7)
        have HF7 : Hid (Disk.Fine s.off) := Lib.hid (Disk.fine_act HF.out .off)
        have HFB7 : Hid (∀ b, btw wc.heap.size w4.heap.size b → b < w7.heap.size ∧ ¬ grow F w4 w7 b) := Lib.hid fun b hb => ⟨Nat.lt_of_lt_of_le hb.2 ho7.size, fun h => h.elim (HFB.out b hb).2 fun h => by have := hb.2; have := h.1; omega⟩
        have HFS7 := Lib.hid (HFS.out.keep (fun _ h => h) (ho7.same HFB.out))
        obtain ⟨F7, hF7⟩ : ∃ X, X = grow F w4 w7 := ⟨_, rfl⟩
        rw [← hF7] at K7 HFB7
        clear hd7 ho7 hF7 HFS HPE
        obtain ⟨c0, c1, c2, c3, c4⟩ := five (hbx.out w7 (HWB.out w7 K7.out.below))
        go_wp2_with fail
        refine (start_off dir KA kn kc keep (under w.heap.size) (Lib.hid K7.out.at_) HF7 rfl hkn (Lib.hid (hk.out.keep (fun _ h => h) (HSM.out w7 (HWB.out w7 K7.out.below)))) (Lib.hid fun b hb => ⟨Nat.lt_of_lt_of_le (Nat.lt_trans hb HWL.out) (HWB.out w7 K7.out.below).size, fun h => by have := K7.out.base b h; have := HB2.out.size; have : b < w.heap.size := hb; have := HWL.out; omega⟩) (by omega) hrl).mono ?_
        rintro e w9 ⟨rfl, hd9, ho9⟩
        have K9 := Lib.hid (K7.out.next hd9 ho9)
        have HF9 : Hid (Disk.Fine (s.off.start dir keep)) := Lib.hid (Disk.fine_act HF7.out (.start dir keep))
        have HFS9 := Lib.hid (HFS7.out.keep (fun _ h => h) (ho9.same HFB7.out))
        have HFB9 : Hid (∀ b, btw wc.heap.size w4.heap.size b → b < w9.heap.size) := Lib.hid fun b hb => Nat.lt_of_lt_of_le (HFB7.out b hb).1 ho9.size
        obtain ⟨q1, q2, -⟩ := Disk.names_start (s := s.off) dir keep rfl
        have HTL : Hid (s.on = true → s.row = [] → ∀ m : Nat, (s.off.start dir keep).files[m]? = s.files[m]?.map fun (f : Disk.Nm × Disk.Nd) => (f.1, Disk.St.cutNd f.2 keep[m]?)) := Lib.hid fun h1 h2 => (Disk.files_start HF.out.good h1 h2 dir keep rfl).2.2
        obtain ⟨t, ht⟩ : ∃ t, t = s.off.start dir keep := ⟨_, rfl⟩
        rw [← ht] at K9 HF9 q1 q2 HTL
        obtain ⟨F9, hF9⟩ : ∃ X, X = grow F7 w7 w9 := ⟨_, rfl⟩
        rw [← hF9] at K9
        have HPW : Hid (∀ W, Below w9.heap.size w9 W → Calls Try.prog 12 #[.pointer (some ⟨d, 0, none⟩)] W fun e w' => e = .returned (.bool true) ∧ W = w') := Lib.hid fun W hW => by have h := power_any (Lib.hid (K9.out.far hW).at_); rw [q1] at h; exact h
        have HPN : Hid (∀ W, Below w9.heap.size w9 W → Calls Try.prog 21 #[.pointer (some ⟨d, 0, none⟩)] W fun e w' => e = .returned (.int .i64 0) ∧ W = w') := Lib.hid fun W hW => by have h := pending_any (Lib.hid (K9.out.far hW).at_); rw [q2] at h; exact h
        have Q1 := Lib.hid q1
        have Q2 := Lib.hid q2
        clear hd9 ho9 ht hF9 q1 q2 HFS7 c0 c1 c2 c3 c4
        go_wp2_with fail
        refine (files_any (Lib.hid K9.out.at_) HF9).mono ?_
        rintro e w10 ⟨gA, gn, gc, rfl, hgn, hgc, hgm, hgo, hb10⟩
        have K10 := Lib.hid (K9.out.far hb10)
        obtain ⟨-, hgs⟩ := hgo.slice
        have HGS := Lib.hid hgs
        have HGN := hgn
        have HB10 := Lib.hid hb10
        have HFS10 := Lib.hid (HFS9.out.keep (fun _ h => h) (Same.of_below hb10 HFB9.out))
        clear hgs hgo hb10 hgn HFS9
        go_wp2_with fail
        refine (HPW.out w10 HB10.out).mono ?_
        rintro e wq ⟨rfl, rfl⟩
        go_wp2_with fail
        refine (HPN.out w10 HB10.out).mono ?_
        rintro e wq ⟨rfl, rfl⟩
        by_cases hf0 : fn = 0
        · subst hf0
          go_wp2_with fail
          go_ret
          exact ⟨rfl, hback.out _ (HWB.out _ K10.out.below)⟩
        obtain rfl : rl = 0 := by omega
        have hon : s.on = true ∧ s.row = [] := by
          rcases HOO.out with h | h
          · exact h
          · exact absurd (show fn = 0 by rw [HFN.out]; simp [Disk.St.files, h]) hf0
        have HT := Lib.hid (HTL.out hon.1 hon.2)
        have HON := Lib.hid hon.1
        obtain rfl : gn = fn := by rw [HGN.out, HFN.out]; exact Disk.len_of_map (fun m => keep[m]?) HT.out
        have hbf0 : (gn == 0) = false := beq_eq_false_iff_ne.2 hf0
        have hbf1 : ((gn : Int) == 0) = false := by rw [beq_eq_false_iff_ne]; omega
        clear hon HTL HOO hz
        have hgn64 : gn ≤ 64 := by rw [HFN.out, Disk.files_len HON.out]; exact HF.out.nowL
        have hgnc := hgc
        go_wp2_with fail
        go_loopg [10] gn (fun q i wr => ∃ (k : Nat), q = gn - k ∧ k ≤ gn ∧ i = .int .i64 k ∧ Hid (Below w10.heap.size w10 wr))
        case atStart => exact ⟨0, by omega, by omega, rfl, Lib.hid (Below.refl _ _)⟩
        case round =>
          obtain ⟨k, rfl, hk', rfl, HB⟩ := hrel
          obtain ⟨wx, rfl⟩ : ∃ W : World, W = wr := ⟨_, rfl⟩
          by_cases hkn' : k < gn
          · have hks : k < s.files.length := by rw [← HFN.out]; exact hkn'
            obtain ⟨f, hf⟩ : ∃ f, f = s.files[k] := ⟨_, rfl⟩
            have hfd := Disk.files_nd HF.out HON.out hks
            rw [← hf] at hfd
            have hxm0 := HF.out.good.sync _ hfd
            have hmb0 := HF.out.big _ hfd
            have hts : t.files[k]? = some (f.1, Disk.St.cutNd f.2 keep[k]?) := by rw [HT.out, List.getElem?_eq_getElem hks, ← hf]; rfl
            have htl : k < t.files.length := (List.getElem?_eq_some_iff.1 hts).1
            have htk : t.files[k] = (f.1, Disk.St.cutNd f.2 keep[k]?) := (List.getElem?_eq_some_iff.1 hts).2
            have e1 : (s.files.map Disk.toFin)[k]'(by simpa using hks) = Disk.toFin f := by simp [hf]
            have e2 : (t.files.map Disk.toFin)[k]'(by simpa using htl) = Disk.toFin (f.1, Disk.St.cutNd f.2 keep[k]?) := by simp [htk]
            obtain ⟨g1, o1, cs, rfl, hg1, hcs1, P, pc, rfl, hP, hN1, -⟩ := (HFS10.out.keep (fun _ h => h) (Same.of_below HB.out fun b hb => Nat.lt_of_lt_of_le (HFB9.out b hb) HB10.out.size)).at_ (i := k) (by simpa using hks)
            obtain ⟨g2, o2, cs, rfl, hg2, hcs2, Q, qc, rfl, hQ, -, -⟩ := (HGS.out.keep (fun _ h => h) (Same.of_below HB.out fun b hb => hb.2)).at_ (i := k) (by simpa using htl)
            rw [e1] at hcs1 hP hN1
            rw [e2] at hcs2 hQ
            obtain ⟨nm, d0⟩ := f
            simp only [Disk.toFin] at hcs1 hP hN1 hcs2 hQ
            obtain ⟨nmv, hnm⟩ : ∃ x : ByteArray, x = ⟨nm.toArray⟩ := ⟨_, rfl⟩
            rw [show sv nm = .string nmv from congrArg Value.string hnm.symm] at hcs1 hcs2
            have hcb : (Disk.St.cutNd d0 keep[k]?).bytes = d0.bytes.take (Disk.St.cutNd d0 keep[k]?).syn := rfl
            have hbad : (Disk.St.cutNd d0 keep[k]?).bad = d0.bad := rfl
            have hsy : (Disk.St.cutNd d0 keep[k]?).syn = d0.syn + (match keep[k]? with | none => 0 | some q => Disk.St.left q (d0.bytes.length - d0.syn)) := rfl
            obtain ⟨N, hN⟩ : ∃ x, x = (Disk.St.cutNd d0 keep[k]?).syn := ⟨_, rfl⟩
            rw [hcb, hbad, ← hN] at hcs2
            rw [hcb, ← hN] at hQ
            rw [← hN] at hsy
            obtain ⟨m, hm'⟩ : ∃ x, x = d0.bytes.length := ⟨_, rfl⟩
            obtain ⟨x, hx⟩ : ∃ x, x = d0.syn := ⟨_, rfl⟩
            obtain ⟨bd, hbd⟩ : ∃ x, x = d0.bad := ⟨_, rfl⟩
            simp only at hxm0 hmb0
            rw [← hm', ← hx] at hxm0 hsy
            rw [← hm'] at hmb0
            have hNm : N ≤ m := by
              rw [hsy]
              split
              · omega
              · exact Nat.le_trans (Nat.add_le_add_left (Nat.min_le_right _ _) _) (by omega)
            have hlt : (d0.bytes.take N).length = N := by rw [List.length_take]; omega
            rw [← hm', ← hx, ← hbd] at hcs1
            rw [hlt, ← hbd] at hcs2
            obtain ⟨a0, a1, a2, a3⟩ := hcs1.four
            obtain ⟨b0, b1, b2, b3⟩ := hcs2.four
            rw [show Rep.fin.n = 4 from rfl] at a0 a1 a2 a3 b0 b1 b2 b3
            have hpc : m ≤ pc := by rw [hm']; exact hP.len
            have hpm := hP.max
            have HEQ : Hid (∀ W, Below wx.heap.size wx W → ∀ r, Calls Try.prog 16 #[.slice Q N qc, .slice P N pc] (W.drewN r) fun e w' => e = .returned (.bool true) ∧ ∃ q, w' = W.drewN q) := Lib.hid fun W hW r => by
              have hW2 : Below wx.heap.size wx (W.drewN r) := hW.trans (below_dr _ _)
              have h := eqBytes Q P qc pc (d0.bytes.take N) (d0.bytes.take N) (W.drewN r) _ _ (hQ.keep (fun _ h => h) (Same.of_below hW2 fun b hb => Nat.lt_of_lt_of_le hb.2 HB.out.size)) ((hP.cutTo (j := N) (by rw [← hm']; exact hNm)).keep (fun _ h => h) (Same.of_below hW2 fun b hb => Nat.lt_of_lt_of_le (HFB9.out b hb) (Nat.le_trans HB10.out.size HB.out.size)))
              rw [hlt] at h
              refine h.mono ?_
              rintro e w' ⟨rfl, q, rfl⟩
              exact ⟨by simp, _, World.drewN_drewN _ _ _⟩
            have HCL : Hid (∀ W, Below wx.heap.size wx W → CellsAt W g1 (o1 + k * 4) [.string nmv, .slice P m pc, .int .i64 x, .bool bd] ∧ CellsAt W g2 (o2 + k * 4) [.string nmv, .slice Q N qc, .int .i64 N, .bool bd]) := Lib.hid fun W hW =>
              ⟨hcs1.below hW (Nat.lt_of_lt_of_le (HFB9.out _ hg1) (Nat.le_trans HB10.out.size HB.out.size)), hcs2.below hW (Nat.lt_of_lt_of_le hg2.2 HB.out.size)⟩
            have HSY := Lib.hid hsy
            have hxm : x ≤ m := hxm0
            have hmb : m ≤ 16777216 := hmb0
            obtain ⟨c0, c1, c2, c3, c4⟩ := five (hbx.out wx (HWB.out wx (K10.out.below.trans (HB.out.mono K10.out.below.size))))
            have hkp := hk.out.keep (fun _ h => h) (HSM.out wx (HWB.out wx (K10.out.below.trans (HB.out.mono K10.out.below.size))))
            have HKP := Lib.hid hkp
            clear hf hfd hxm0 hmb0 hts htl htk e1 e2 hg1 hcs1 hP hN1 hg2 hcs2 hQ hnm hcb hbad hsy hN hm' hx hbd hlt b0 b1 b2 b3 hkp hks
            go_upto_if 140 with fail
            go_cut [11] from 140 to 205 (fun v11 wc => v11 = .int .i64 (N : Nat) ∧ Hid (Below wx.heap.size wx wc))
            case first =>
              by_cases hkk : k < kn
              · have hkl : k < keep.length := by rw [← hkn.out]; exact hkk
                obtain ⟨g3, o3, cs, rfl, hg3, hcs3, rfl, -⟩ := HKP.out.at_ (i := k) hkl
                obtain ⟨Kv, hKv⟩ : ∃ q, q = keep[k] := ⟨_, rfl⟩
                rw [← hKv] at hcs3
                have d3 := hcs3.one
                rw [show (Rep.int .i64).n = 1 from rfl, Nat.mul_one] at d3
                obtain ⟨lf, hlf⟩ : ∃ q, q = Disk.St.left Kv (m - x) := ⟨_, rfl⟩
                have hNlf : N = x + lf := by rw [HSY.out, List.getElem?_eq_getElem hkl, hlf, hKv]
                have hlb : lf ≤ m - x := by rw [hlf]; unfold Disk.St.left; omega
                have HLF : Hid (∀ r, Calls Try.prog 23 #[.int .i64 Kv, .int .i64 ((m - x : Nat) : Int)] (wx.drewN r) fun e w' => e = .returned (.int .i64 (lf : Nat)) ∧ ∃ q, w' = wx.drewN q) := Lib.hid fun r => by
                  rw [hlf]
                  refine (left_any Kv (m - x) _).mono ?_
                  rintro e w' ⟨rfl, rfl⟩
                  exact ⟨rfl, r, rfl⟩
                have hw1 : IntKind.i64.wrap ((m : Int) - (x : Int)) = ((m - x : Nat) : Int) := by rw [IntWalk.i64_in _ (by omega)]; omega
                have hw2 : IntKind.i64.wrap ((x : Int) + (lf : Int)) = ((x + lf : Nat) : Int) := by rw [IntWalk.i64_in _ (by omega)]; omega
                have HNL := Lib.hid hNlf
                have hkki : (k : Int) < (kn : Int) := by omega
                have hgi : (k : Int) < (gn : Int) := by omega
                clear hcs3 hKv hlf hNlf hg3 hkl
                go_wp2_with fail
                go_quiet ((go_at_call 23; exact HLF.out _))
                go_wp2_with fail
                go_meet
                case rel => exact ⟨by rw [HNL.out]; first | rfl | (congr 1; omega), Lib.hid (below_dr _ _)⟩
              · have hNx : N = x := by rw [HSY.out, List.getElem?_eq_none (l := keep) (i := k) (by rw [← hkn.out]; omega)]; rfl
                have HNX := Lib.hid hNx
                clear hNx
                go_wp2_with fail
                go_meet
                case rel => exact ⟨by rw [HNX.out], Lib.hid (Below.refl _ _)⟩
            case rest =>
              obtain ⟨rfl, HBC⟩ := hcut
              clear a0 a1 a2 a3 c0 c1 c2 c3 c4
              obtain ⟨hc1, hc2⟩ := HCL.out wc HBC.out
              obtain ⟨a0, a1, a2, a3⟩ := hc1.four
              obtain ⟨b0, b1, b2, b3⟩ := hc2.four
              have HE := Lib.hid (HEQ.out wc HBC.out)
              have hNp : N ≤ pc := by omega
              have hNpi : (N : Int) ≤ (pc : Int) := by omega
              have hNmi : (N : Int) ≤ (m : Int) := by omega
              have hgi : (k : Int) < (gn : Int) := by omega
              clear hc1 hc2
              go_wp2_with fail
              go_quiet ((go_at_call 16; exact HE.out _))
              generalize hW : World.drewN _ _ = wy
              have HBY : Hid (Below wc.heap.size wc wy) := Lib.hid (by rw [← hW]; exact below_dr _ _)
              clear hW a0 a1 a2 a3 b0 b1 b2 b3
              go_wp2_with fail
              go_roundg (gn - (k + 1))
              case measure => omega
              case rel => exact ⟨k + 1, by omega, by omega, by go_num, Lib.hid ((HB.out.trans (HBC.out.mono HB.out.size)).trans (HBY.out.mono (Nat.le_trans HB.out.size HBC.out.size)))⟩
          · obtain rfl : k = gn := by omega
            have KX := Lib.hid (K10.out.far HB.out)
            have HGX : Hid (SliceAt Rep.fin wx (btw w9.heap.size w10.heap.size) gA gc (t.files.map Disk.toFin)) := Lib.hid (HGS.out.keep (fun _ h => h) (Same.of_below HB.out fun b hb => hb.2))
            have HFX : Hid (∀ b, btw w9.heap.size w10.heap.size b → b < wx.heap.size ∧ ¬ F9 b) := Lib.hid fun b hb => ⟨Nat.lt_of_lt_of_le hb.2 HB.out.size, fun h => by have := K9.out.at_.lt b h; have := hb.1; omega⟩
            have HAG := Lib.hid (Disk.files_again HF9.out.good Q1.out Q2.out (fun m => keep[m]?) HT.out)
            go_wp2_with fail
            refine (off_any (Lib.hid KX.out.at_)).mono ?_
            rintro e w11 ⟨rfl, hd11, ho11⟩
            have K11 := Lib.hid (KX.out.next (hd11.up (fun _ hb => .inl hb) (grow_lt KX.out.at_.lt ho11.size)) ho11)
            have HF11 : Hid (Disk.Fine t.off) := Lib.hid (Disk.fine_act HF9.out .off)
            have HFX11 : Hid (∀ b, btw w9.heap.size w10.heap.size b → b < w11.heap.size ∧ ¬ grow F9 wx w11 b) := Lib.hid fun b hb => ⟨Nat.lt_of_lt_of_le (HFX.out b hb).1 ho11.size, fun h => h.elim (HFX.out b hb).2 fun h => by have := (HFX.out b hb).1; have := h.1; omega⟩
            have HGX11 := Lib.hid (HGX.out.keep (fun _ h => h) (ho11.same HFX.out))
            obtain ⟨F11, hF11⟩ : ∃ X, X = grow F9 wx w11 := ⟨_, rfl⟩
            rw [← hF11] at K11 HFX11
            have hrow : t.off.row.length ≤ 1099511627776 := by show t.row.length ≤ _; rw [Q2.out]; simp
            clear hd11 ho11 hF11
            go_wp2_with fail
            refine (start_off 0 none 0 0 [] nob (Lib.hid K11.out.at_) HF11 rfl (Lib.hid rfl) (Lib.hid (SliceAt.nil _ _ _)) (Lib.hid fun _ h => h.elim) (by omega) hrow).mono ?_
            rintro e w12 ⟨rfl, hd12, ho12⟩
            have K12 := Lib.hid (K11.out.next hd12 ho12)
            have HF12 : Hid (Disk.Fine (t.off.start 0 [])) := Lib.hid (Disk.fine_act HF11.out (.start 0 []))
            have HGX12 := Lib.hid (HGX11.out.keep (fun _ h => h) (ho12.same HFX11.out))
            have HFX12 : Hid (∀ b, btw w9.heap.size w10.heap.size b → b < w12.heap.size) := Lib.hid fun b hb => Nat.lt_of_lt_of_le (HFX11.out b hb).1 ho12.size
            clear hd12 ho12
            go_wp2_with fail
            refine (files_any (Lib.hid K12.out.at_) HF12).mono ?_
            rintro e w13 ⟨xA, xn, xc, rfl, hxn, -, -, hxo, hb13⟩
            have K13 := Lib.hid (K12.out.far hb13)
            obtain ⟨-, hxs⟩ := hxo.slice
            rw [HAG.out] at hxs hxn
            obtain rfl : xn = k := by rw [hxn.out, HGN.out]
            have HEF := Lib.hid (eqFiles_yes (w := w13) (t.files.map Disk.toFin) xA gA xn xc gc _ _ (Lib.hid (by rw [List.length_map]; exact hxn.out)) (Lib.hid hxs) (Lib.hid (HGX12.out.keep (fun _ h => h) (Same.of_below hb13 HFX12.out))) (Lib.hid fun b hb => hb.2) (Lib.hid fun b hb => Nat.lt_of_lt_of_le (HFX12.out b hb) hb13.size))
            clear hxs hxn hxo hb13
            go_wp2_with fail
            refine HEF.out.mono ?_
            rintro e w14 ⟨rfl, hb14⟩
            have HB14 := Lib.hid hb14
            clear hb14
            go_wp2_with fail
            go_ret
            exact ⟨rfl, hback.out _ (HWB.out _ (K13.out.below.trans (HB14.out.mono K13.out.below.size)))⟩
end
end Go.Proofs.Ytignnohjggjkoaa
