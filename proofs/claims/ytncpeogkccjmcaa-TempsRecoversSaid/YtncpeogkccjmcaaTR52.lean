/- Texts that lead to the claim, one behind the other: galleylaw29.TempsRecovers: the walk. Condition: what is handed in lies within reach. -/
import Derived.Test.YtncpeogkccjmcaaTR46
import Derived.Test.YtncpeogkccjmcaaTR49
import Derived.Test.YtncpeogkccjmcaaTR50
import Derived.Test.YtncpeogkccjmcaaTR51
import Derived.Test.YtncpeogkccjmcaaTR27
namespace Go.Proofs.Ytncpeogkccjmcaa
open Go.RowKit Go.ChangeShapes Go.WideShapes Go.Deep

theorem eight_of {wr : World} {b : Nat} {v0 v1 v2 v3 v4 v5 v6 v7 : Value} {t : TypeId} (h : wr.heap[b]? = some (.cells #[v0, v1, v2, v3, v4, v5, v6, v7] t (0, 0))) :
    wr.cell? ⟨b, 0, none⟩ = some v0 ∧ wr.cell? ⟨b, 1, none⟩ = some v1 ∧ wr.cell? ⟨b, 2, none⟩ = some v2 ∧ wr.cell? ⟨b, 3, none⟩ = some v3 ∧ wr.cell? ⟨b, 4, none⟩ = some v4 ∧ wr.cell? ⟨b, 5, none⟩ = some v5 ∧ wr.cell? ⟨b, 6, none⟩ = some v6 ∧ wr.cell? ⟨b, 7, none⟩ = some v7 :=
  ⟨(cell_of_row _ _ 0 _ _ (0, 0) h).trans rfl, (cell_of_row _ _ 1 _ _ (0, 0) h).trans rfl, (cell_of_row _ _ 2 _ _ (0, 0) h).trans rfl, (cell_of_row _ _ 3 _ _ (0, 0) h).trans rfl, (cell_of_row _ _ 4 _ _ (0, 0) h).trans rfl, (cell_of_row _ _ 5 _ _ (0, 0) h).trans rfl, (cell_of_row _ _ 6 _ _ (0, 0) h).trans rfl, (cell_of_row _ _ 7 _ _ (0, 0) h).trans rfl⟩
/-- A disk of the call's own, and a list of files that was told of it. -/
structure Kw (w0 w : World) (F : Blocks) (d : Nat) (s : Disk.St) (U : Blocks) (A : Option Addr) (c : Nat) (l : List Disk.Fin_) : Prop where
  kd : Kd w0 w F d s
  sl : SliceAt Rep.fin w U A c l
  ub : ∀ b, U b → b < w.heap.size ∧ ¬ F b
section
variable {w0 w w' : World} {F : Blocks} {d : Nat} {s t : Disk.St} {U : Blocks} {A : Option Addr} {c : Nat} {l : List Disk.Fin_}
theorem Kw.next (h : Kw w0 w F d s U A c l) (h1 : DiskAt w' (grow F w w') d t) (h2 : Only F w w') : Kw w0 w' (grow F w w') d t U A c l :=
  ⟨h.kd.next h1 h2, h.sl.keep (fun _ h => h) (h2.same h.ub), fun b hb => ⟨Nat.lt_of_lt_of_le (h.ub b hb).1 h2.size, fun hg => hg.elim (h.ub b hb).2 fun hg => by have := (h.ub b hb).1; have := hg.1; omega⟩⟩
theorem Kw.call {r : Disk.St × Int} {e : Ending} (h : Kw w0 w F d s U A c l) (hc : DiskCall w F d r e w') : e = .returned (.int .i64 r.2) ∧ Kw w0 w' (grow F w w') d r.1 U A c l := ⟨hc.1, h.next hc.2.1 hc.2.2⟩
theorem Kw.far (h : Kw w0 w F d s U A c l) (hb : Below w.heap.size w w') : Kw w0 w' F d s U A c l :=
  ⟨h.kd.far hb, h.sl.keep (fun _ h => h) (Same.of_below hb fun b hu => (h.ub b hu).1), fun b hu => ⟨Nat.lt_of_lt_of_le (h.ub b hu).1 hb.size, (h.ub b hu).2⟩⟩
end
theorem eCopyFiles : ∀ args w, (callFunc 16 args).run Try.prog w = .ok (.enter 16 args) w := enters_of Try.func16 (by kernel_rfl) rfl
theorem eCopyInts : ∀ args w, (callFunc 23 args).run Try.prog w = .ok (.enter 23 args) w := enters_of Try.func23 (by kernel_rfl) rfl
theorem eFrom : ∀ args w, (callFunc 15 args).run Try.prog w = .ok (.enter 15 args) w := enters_of Try.func15 (by kernel_rfl) rfl
theorem eStart : ∀ args w, (callFunc 22 args).run Try.prog w = .ok (.enter 22 args) w := enters_of Try.func22 (by kernel_rfl) rfl
section
variable {w : World}
set_option maxRecDepth 100000 in
set_option maxHeartbeats 8000000 in
set_option linter.unusedSimpArgs false in
theorem tempsRec_law (room : Int) (fs : List Disk.Fin_) (fl : List (Int × Int)) (dir : Int) (keep : List Int) (ag : List (Int × Int)) (th : Int) (lf : List Int) (A B KA AA LA : Option Addr) (n c m mc kn kc an ac ln lc : Nat)
    (hn : Hid (n = fs.length)) (hm : Hid (m = fl.length)) (hkn : Hid (kn = keep.length)) (han : Hid (an = ag.length)) (hln : Hid (ln = lf.length))
    (h1 : Hid (SliceAt Rep.fin w (under w.heap.size) A c fs)) (h2 : Hid (SliceAt Rep.fault w (under w.heap.size) B mc fl)) (hk : Hid (SliceAt (Rep.int .i64) w (under w.heap.size) KA kc keep)) (ha : Hid (SliceAt Rep.fault w (under w.heap.size) AA ac ag)) (hl : Hid (SliceAt (Rep.int .i64) w (under w.heap.size) LA lc lf))
    (hf : Hid (∀ f ∈ fs, finReach f)) (hnb : n ≤ 281474976710656) (hmb : m ≤ 281474976710656) (hkb : kn ≤ 281474976710656) (hab : an ≤ 281474976710656) (hlb : ln ≤ 281474976710656) :
    Calls Try.prog 5 #[.agg #[.int .i64 room, .slice A n c, .slice B m mc, .int .i64 dir, .slice KA kn kc, .slice AA an ac, .int .i64 th, .slice LA ln lc]] w fun e w' => e = .returned (.bool true) ∧ Below w.heap.size w w' := by
  have hnc : n ≤ c := by rw [hn.out]; exact h1.out.len
  have hcm := h1.out.max
  have hmd : m ≤ mc := by rw [hm.out]; exact h2.out.len
  have hdm := h2.out.max
  have hkc : kn ≤ kc := by rw [hkn.out]; exact hk.out.len
  have hkcm := hk.out.max
  have hac : an ≤ ac := by rw [han.out]; exact ha.out.len
  have hacm := ha.out.max
  have hlc : ln ≤ lc := by rw [hln.out]; exact hl.out.len
  have hlcm := hl.out.max
  obtain ⟨W, hW⟩ : ∃ W, W = w.alloc (.cells #[.int .i64 room, .slice A n c, .slice B m mc, .int .i64 dir, .slice KA kn kc, .slice AA an ac, .int .i64 th, .slice LA ln lc] 37) := ⟨_, rfl⟩
  have hbW : Below w.heap.size w W := by rw [hW]; exact Below.alloc (Below.refl _ _) (Nat.le_refl _) _
  have hbox : W.heap[w.heap.size]? = some (.cells #[.int .i64 room, .slice A n c, .slice B m mc, .int .i64 dir, .slice KA kn kc, .slice AA an ac, .int .i64 th, .slice LA ln lc] 37 (0, 0)) := by rw [hW]; exact heap_alloc_new _ _
  have hwlt : w.heap.size < W.heap.size := (Array.getElem?_eq_some_iff.1 hbox).1
  have hbx : Hid (∀ wr, Below W.heap.size W wr → wr.heap[w.heap.size]? = some (.cells #[.int .i64 room, .slice A n c, .slice B m mc, .int .i64 dir, .slice KA kn kc, .slice AA an ac, .int .i64 th, .slice LA ln lc] 37 (0, 0))) := Lib.hid fun wr ho => (ho.block _ hwlt).trans hbox
  have HSM : Hid (∀ wr, Below W.heap.size W wr → Same (under w.heap.size) w wr) := Lib.hid fun wr hb => (Same.of_below hbW fun _ h => h).trans (Same.of_below hb fun _ h => Nat.lt_trans h hwlt)
  have HUL : Hid (∀ wr, Below W.heap.size W wr → ∀ b, under w.heap.size b → b < wr.heap.size) := Lib.hid fun wr hb b h => Nat.lt_of_lt_of_le (Nat.lt_trans h hwlt) hb.size
  have HWL := Lib.hid hwlt
  have H1 := Lib.hid (long29_any (w := W) fs A n c (under w.heap.size) hn (Lib.hid (h1.out.keep (fun _ h => h) (HSM.out W (Below.refl _ _)))) (Lib.hid fun b hb => Nat.lt_trans hb hwlt) hf hnb)
  have hback : Hid (∀ wr, Below W.heap.size W wr → Below w.heap.size w wr) := Lib.hid fun wr hb => hbW.trans (hb.mono (Nat.le_of_lt hwlt))
  have HLG : Hid (∀ (k : Nat) W, Calls Try.prog 6 #[.int .i64 k] W fun e w' => e = .returned (.bool (decide (2147483647 < k))) ∧ W = w') := Lib.hid fun k W => long_str k W
  go_enter Try.func5, Try.ntmps5
  go_wp2_with fail
  rw [← hW]
  obtain ⟨c0, c1, c2, c3, c4, c5, c6, c7⟩ := eight_of hbox
  clear hW hbW hbox hwlt
  go_wp2_with fail
  refine H1.out.mono ?_
  rintro e w1 ⟨b, rfl, hw, hb1⟩
  have HB1 := Lib.hid hb1
  clear c0 c1 c2 c3 c4 c5 c6 c7
  obtain ⟨c0, c1, c2, c3, c4, c5, c6, c7⟩ := eight_of (hbx.out w1 hb1)
  cases b
  case true =>
    clear hb1 hw
    go_wp2_with fail
    go_ret
    exact ⟨rfl, hback.out _ HB1.out⟩
  have HW := Lib.hid (hw rfl)
  clear hb1 hw H1
  go_wp2_with fail
  have hlg := HLG.out (m + an + kn + ln) w1
  rw [show ((m + an + kn + ln : Nat) : Int) = ↑m + ↑an + ↑kn + ↑ln by omega] at hlg
  by_cases hbig : 2147483647 < m + an + kn + ln
  · rw [decide_eq_true hbig] at hlg
    refine hlg.mono ?_
    rintro e w' ⟨rfl, rfl⟩
    clear hlg
    go_wp2_with fail
    go_ret
    exact ⟨rfl, hback.out _ HB1.out⟩
  rw [decide_eq_false hbig] at hlg
  refine hlg.mono ?_
  rintro e w' ⟨rfl, rfl⟩
  clear hlg
  have hm1 : m ≤ 2147483647 := by omega
  have hk1 : kn ≤ 2147483647 := by omega
  have ha1 : an ≤ 2147483647 := by omega
  have hl1 : ln ≤ 2147483647 := by omega
  have hn1 : n ≤ 2147483647 := by rw [hn.out]; have := HW.out; unfold WithinF at this; omega
  have HCF : Hid (∀ wr, Below W.heap.size W wr → Calls Try.prog 16 #[.slice A n c] wr fun e w' => ∃ A' c', e = .returned (.slice A' n c') ∧ n ≤ c' ∧ c' ≤ 9223372036854775807 ∧ SliceAt Rep.fin w' (btw wr.heap.size w'.heap.size) A' c' fs ∧ Below wr.heap.size wr w') := Lib.hid fun wr hb =>
    copyFiles_any A n c fs (under w.heap.size) hn (Lib.hid (h1.out.keep (fun _ h => h) (HSM.out wr hb))) (Lib.hid (HUL.out wr hb)) (Lib.hid fun f hf' => by have := (HW.out.file hf').1; omega) (by omega)
  have HFM : Hid (∀ wr w' A' c', Below W.heap.size W wr → SliceAt Rep.fin w' (btw wr.heap.size w'.heap.size) A' c' fs → Below wr.heap.size wr w' → Calls Try.prog 15 #[.int .i64 room, .slice A' n c'] w' (FromPost w' room fs)) := Lib.hid fun wr w' A' c' hb hs hb' =>
    from_any room A' n c' fs _ hn (Lib.hid hs) (Lib.hid fun b hb => hb.2) (Lib.hid fun f hf' => by have := (HW.out.file hf').1; omega)
  clear hbig c2 c3 c4 c5 c6 c7
  obtain ⟨q, hq⟩ : ∃ q, q = Disk.fromErr room fs := ⟨_, rfl⟩
  by_cases hq0 : q ≠ 0
  · have hqb : (q != 0) = true := bne_iff_ne.2 hq0
    have HFM2 : Hid (∀ wr w' A' c', Below W.heap.size W wr → SliceAt Rep.fin w' (btw wr.heap.size w'.heap.size) A' c' fs → Below wr.heap.size wr w' → Calls Try.prog 15 #[.int .i64 room, .slice A' n c'] w' fun e w2 => e = .returned (.tuple #[.pointer none, .int .i64 q]) ∧ Below w'.heap.size w' w2) := Lib.hid fun wr w' A' c' hb hs hb' =>
      (HFM.out wr w' A' c' hb hs hb').mono fun e w2 h => by
        rcases h with ⟨-, h1, h2⟩ | ⟨h1, -⟩
        · rw [hq]; exact ⟨h1, h2⟩
        · exact absurd (hq.trans h1) hq0
    clear hq hq0 HFM
    go_upto_region 3 with fail
    go_cut [3, 4] from 30 (fun v3 v4 wc => v3 = .pointer none ∧ v4 = .int .i64 q ∧ Hid (Below W.heap.size W wc))
    case first =>
      go_region_law (first
        | (refine step_call_law rfl 16 #[.tmp 34] #[33] rfl eCopyFiles #[.slice A n c] (by simp [Act.eval]) _ (HCF.out _ (by first | exact HB1.out | exact HB1.out.drew)) ?_; rintro e w2 ⟨A', c', rfl, hc1, hc2, hs2, hb2⟩; have HS2 := Lib.hid hs2; have HB2 := Lib.hid hb2; clear hs2 hb2; have HBB : Hid (Below W.heap.size W w2) := Lib.hid (by first | exact HB1.out.trans (HB2.out.mono HB1.out.size) | exact HB1.out.drew.trans (HB2.out.mono HB1.out.size)); have d0 := (eight_of (hbx.out w2 HBB.out)).1; refine ⟨_, rfl, ?_⟩)
        | (refine step_call_law rfl 15 #[.tmp 32, .tmp 35] #[3, 33] rfl eFrom #[.int .i64 room, .slice A' n c'] (by simp [Act.eval]) _ (HFM2.out _ _ A' c' (by first | exact HB1.out | exact HB1.out.drew) HS2.out HB2.out) ?_; rintro e w3 ⟨rfl, hb3⟩; have HB3 : Hid (Below W.heap.size W w3) := Lib.hid (HBB.out.trans (hb3.mono HBB.out.size)); clear hb3; refine ⟨_, rfl, ?_⟩)
        | fail)
      all_goals
        go_wp2_with fail
        go_meet
        case rel => exact ⟨rfl, rfl, HB3⟩
    case rest =>
      obtain ⟨rfl, rfl, HB3⟩ := hcut
      go_wp2_with fail
      refine tworks_any.mono ?_
      rintro e w4 ⟨rfl, hb4⟩
      have HB4 := Lib.hid (HB3.out.trans (hb4.mono HB3.out.size))
      clear hb4
      go_wp2_with fail
      go_ret
      exact ⟨rfl, hback.out _ HB4.out⟩
  · obtain rfl : q = 0 := Decidable.not_not.1 hq0
    have HFM2 : Hid (∀ wr w' A' c', Below W.heap.size W wr → SliceAt Rep.fin w' (btw wr.heap.size w'.heap.size) A' c' fs → Below wr.heap.size wr w' → Calls Try.prog 15 #[.int .i64 room, .slice A' n c'] w' fun e w2 => ∃ d, e = .returned (.tuple #[.pointer (some ⟨d, 0, none⟩), .int .i64 0]) ∧ DiskAt w2 (btw w'.heap.size w2.heap.size) d (Disk.fromSt room fs) ∧ Below w'.heap.size w' w2) := Lib.hid fun wr w' A' c' hb hs hb' =>
      (HFM.out wr w' A' c' hb hs hb').mono fun e w2 h => by
        rcases h with ⟨h1, -⟩ | ⟨-, d, h2, h3, h4⟩
        · exact absurd hq.symm h1
        · exact ⟨d, h2, h3, h4⟩
    have HE := Lib.hid hq.symm
    clear hq hq0 HFM
    go_upto_region 3 with fail
    go_cut [3, 4] from 30 (fun v3 v4 wc => ∃ (d : Nat) (F : Blocks), v3 = .pointer (some ⟨d, 0, none⟩) ∧ v4 = .int .i64 0 ∧ Hid (Kd W wc F d (Disk.fromSt room fs)))
    case first =>
      go_region_law (first
        | (refine step_call_law rfl 16 #[.tmp 34] #[33] rfl eCopyFiles #[.slice A n c] (by simp [Act.eval]) _ (HCF.out _ (by first | exact HB1.out | exact HB1.out.drew)) ?_; rintro e w2 ⟨A', c', rfl, hc1, hc2, hs2, hb2⟩; have HS2 := Lib.hid hs2; have HB2 := Lib.hid hb2; clear hs2 hb2; have HBB : Hid (Below W.heap.size W w2) := Lib.hid (by first | exact HB1.out.trans (HB2.out.mono HB1.out.size) | exact HB1.out.drew.trans (HB2.out.mono HB1.out.size)); have d0 := (eight_of (hbx.out w2 HBB.out)).1; refine ⟨_, rfl, ?_⟩)
        | (refine step_call_law rfl 15 #[.tmp 32, .tmp 35] #[3, 33] rfl eFrom #[.int .i64 room, .slice A' n c'] (by simp [Act.eval]) _ (HFM2.out _ _ A' c' (by first | exact HB1.out | exact HB1.out.drew) HS2.out HB2.out) ?_; rintro e w3 ⟨d, rfl, hd3, hb3⟩; have HB3 : Hid (Below W.heap.size W w3) := Lib.hid (HBB.out.trans (hb3.mono HBB.out.size)); have HD3 := Lib.hid hd3; clear hb3 hd3; refine ⟨_, rfl, ?_⟩)
        | fail)
      all_goals
        go_wp2_with fail
        go_meet
        case rel => exact ⟨d, _, rfl, rfl, Lib.hid ⟨HD3.out, HB3.out, fun b hb => Nat.le_trans HBB.out.size hb.1⟩⟩
    case rest =>
      obtain ⟨d, F, rfl, rfl, K0⟩ := hcut
      clear HCF HFM2
      have HF0 := Lib.hid (Disk.fine_from HE.out)
      have HS0 : Hid (Disk.Small 0 (Disk.fromSt room fs)) := Lib.hid (Disk.small_from room fs)
      go_wp2_with fail
      refine (files_any (Lib.hid K0.out.at_) HF0).mono ?_
      rintro e w4 ⟨fA, fn, fc, rfl, hfn, hfc, hfm, hfo, hb4⟩
      have HFN := hfn
      obtain ⟨-, hfs⟩ := hfo.slice
      have K4 : Hid (Kw W w4 F d (Disk.fromSt room fs) (btw wc.heap.size w4.heap.size) fA fc ((Disk.fromSt room fs).files.map Disk.toFin)) := Lib.hid ⟨K0.out.far hb4, hfs, fun b hb => ⟨hb.2, fun h => by have := K0.out.at_.lt b h; have := hb.1; omega⟩⟩
      obtain ⟨U, hU⟩ : ∃ U, U = btw wc.heap.size w4.heap.size := ⟨_, rfl⟩
      rw [← hU] at K4
      clear hfs hfo hb4 hfn hU K0
      obtain ⟨c0, c1, c2, c3, c4, c5, c6, c7⟩ := eight_of (hbx.out w4 K4.out.kd.below)
      go_wp2_with fail
      refine (copyFaults_any B m mc fl (under w.heap.size) hm (Lib.hid (h2.out.keep (fun _ h => h) (HSM.out w4 K4.out.kd.below))) (by omega)).mono ?_
      rintro e w5a ⟨pA, pc, rfl, hpc, hpm, hps, hpb⟩
      have K4a := Lib.hid (K4.out.far hpb)
      have HPS := Lib.hid hps
      have HPU : Hid (∀ b, btw w4.heap.size w5a.heap.size b → b < w5a.heap.size ∧ ¬ F b) := Lib.hid fun b hb => ⟨hb.2, fun h => by have := K4.out.kd.at_.lt b h; have := hb.1; omega⟩
      clear hps hpb
      clear c0 c1 c2 c3 c4 c5 c6 c7
      go_wp2_with fail
      refine (plan_any pA m pc fl _ (Lib.hid K4a.out.kd.at_) hm HPS HPU (by omega)).mono ?_
      rintro e w5 hcall
      obtain ⟨rfl, hk⟩ := K4a.out.call hcall
      have Kw5 := Lib.hid hk
      have HFw5 := Lib.hid (Disk.fine_act HF0.out (.plan fl))
      have HSw5 := Lib.hid (Disk.small_act HS0.out (.plan fl))
      clear hcall hk HPS HPU
      go_wp2_with fail
      refine (clean_any (Lib.hid Kw5.out.kd.at_) HFw5 HSw5 (by omega)).mono ?_
      rintro e w6 hcall
      obtain ⟨rfl, hk⟩ := Kw5.out.call hcall
      have Kw6 := Lib.hid hk
      have HFw6 := Lib.hid (Disk.fine_clean HFw5.out)
      have HSw6 := Lib.hid (Disk.small_clean HFw5.out HSw5.out)
      clear hcall hk
      go_wp2_with fail
      refine (off_any (Lib.hid Kw6.out.kd.at_)).mono ?_
      rintro e w7 ⟨rfl, hd7, ho7⟩
      have Kw7 := Lib.hid (Kw6.out.next (hd7.up (fun _ hb => .inl hb) (grow_lt Kw6.out.kd.at_.lt ho7.size)) ho7)
      have HFw7 := Lib.hid (Disk.fine_act HFw6.out .off)
      have HSw7 := Lib.hid (Disk.small_act HSw6.out .off)
      clear hd7 ho7
      obtain ⟨c0, c1, c2, c3, c4, c5, c6, c7⟩ := eight_of (hbx.out w7 Kw7.out.kd.below)
      have HCI : Hid (∀ wx, Below w7.heap.size w7 wx → Calls Try.prog 23 #[.slice KA kn kc] wx fun e w' => ∃ A' c', e = .returned (.slice A' kn c') ∧ kn ≤ c' ∧ c' ≤ 9223372036854775807 ∧ SliceAt (Rep.int .i64) w' (btw w7.heap.size w'.heap.size) A' c' keep ∧ Below w7.heap.size wx w') := Lib.hid fun wx hb =>
        (copyInts_any KA kn kc keep (under w.heap.size) hkn (Lib.hid (hk.out.keep (fun _ h => h) (HSM.out wx (Kw7.out.kd.below.trans (hb.mono Kw7.out.kd.below.size))))) (by omega)).mono fun e w' h => by
          obtain ⟨A', c', h1, h2, h3, h4, h5⟩ := h
          exact ⟨A', c', h1, h2, h3, h4.up fun b hb' => ⟨Nat.le_trans hb.size hb'.1, hb'.2⟩, h5.mono hb.size⟩
      have HST : Hid (∀ wi A' c', SliceAt (Rep.int .i64) wi (btw w7.heap.size wi.heap.size) A' c' keep → Below w7.heap.size w7 wi → Calls Try.prog 22 #[.pointer (some ⟨d, 0, none⟩), .int .i64 dir, .slice A' kn c'] wi fun e w' => e = .returned (.tuple #[]) ∧ ∃ FX, Kw W w' FX d ((Disk.r2 (Disk.fromSt room fs) fl).off.start dir keep) U fA fc ((Disk.fromSt room fs).files.map Disk.toFin)) := Lib.hid fun wi A' c' hs hb => by
        have k := Kw7.out.far hb
        refine (start_off dir A' kn c' keep _ (Lib.hid k.kd.at_) HFw7 rfl hkn (Lib.hid hs) (Lib.hid fun b hb' => ⟨hb'.2, fun h => ?_⟩) (by omega) ?_).mono ?_
        · have := Kw7.out.kd.at_.lt b h; have := hb'.1; omega
        · exact Nat.le_trans HSw7.out.2.2.2.2 (by omega)
        · rintro e w' ⟨rfl, h1, h2⟩
          exact ⟨rfl, _, k.next h1 h2⟩
      go_upto_region 10 with fail
      go_cut [] from 57 (fun wc => ∃ F' : Blocks, Hid (Kw W wc F' d ((Disk.r2 (Disk.fromSt room fs) fl).off.start dir keep) U fA fc ((Disk.fromSt room fs).files.map Disk.toFin)))
      case first => 
        go_region_law (first
          | (refine step_call_law rfl 23 #[.tmp 61] #[35] rfl eCopyInts #[.slice KA kn kc] (by simp [Act.eval]) _ (HCI.out _ (by first | exact Below.refl _ _ | exact (Below.refl _ _).drew)) ?_; rintro e wi ⟨A', c', rfl, hc1, hc2, hs2, hb2⟩; have HS2 := Lib.hid hs2; have HB2 : Hid (Below w7.heap.size w7 wi) := Lib.hid ⟨hb2.os, hb2.tape, hb2.output, hb2.size, hb2.block⟩; clear hs2 hb2; obtain ⟨d0, d1, d2, d3, d4, d5, d6, d7⟩ := eight_of (hbx.out wi (Kw7.out.kd.below.trans (HB2.out.mono Kw7.out.kd.below.size))); refine ⟨_, rfl, ?_⟩)
          | (refine step_call_law rfl 22 #[.tmp 57, .tmp 59, .tmp 62] #[27, 3, 35] rfl eStart #[.pointer (some ⟨d, 0, none⟩), .int .i64 dir, .slice A' kn c'] (by simp [Act.eval]) _ (HST.out wi A' c' (by first | exact HS2.out) HB2.out) ?_; rintro e w3 ⟨rfl, FX, hk3⟩; have HK3 := Lib.hid hk3; clear hk3; refine ⟨_, rfl, ?_⟩)
          | fail)
        all_goals
          go_wp2_with fail
          go_meet
          case rel => exact ⟨FX, HK3⟩
      case rest =>
      obtain ⟨Fw8, Kw8⟩ := hcut
      obtain ⟨w8, rfl⟩ : ∃ X : World, X = wc := ⟨_, rfl⟩
      have HFw8 := Lib.hid (Disk.fine_act HFw7.out (.start dir keep))
      have HSw8 := Lib.hid (Disk.small_act HSw7.out (.start dir keep))
      clear HCI HST Kw7 c0 c1 c2 c3 c4 c5 c6 c7
      obtain ⟨c0, c1, c2, c3, c4, c5, c6, c7⟩ := eight_of (hbx.out w8 Kw8.out.kd.below)
      go_wp2_with fail
      refine (copyFaults_any AA an ac ag (under w.heap.size) han (Lib.hid (ha.out.keep (fun _ h => h) (HSM.out w8 Kw8.out.kd.below))) (by omega)).mono ?_
      rintro e w9a ⟨pA, pc, rfl, hpc, hpm, hps, hpb⟩
      have Kw8a := Lib.hid (Kw8.out.far hpb)
      have HPS := Lib.hid hps
      have HPU : Hid (∀ b, btw w8.heap.size w9a.heap.size b → b < w9a.heap.size ∧ ¬ Fw8 b) := Lib.hid fun b hb => ⟨hb.2, fun h => by have := Kw8.out.kd.at_.lt b h; have := hb.1; omega⟩
      clear hps hpb
      clear c0 c1 c2 c3 c4 c5 c6 c7
      go_wp2_with fail
      refine (plan_any pA an pc ag _ (Lib.hid Kw8a.out.kd.at_) han HPS HPU (by omega)).mono ?_
      rintro e w9 hcall
      obtain ⟨rfl, hk⟩ := Kw8a.out.call hcall
      have Kw9 := Lib.hid hk
      have HFw9 := Lib.hid (Disk.fine_act HFw8.out (.plan ag))
      have HSw9 := Lib.hid (Disk.small_act HSw8.out (.plan ag))
      clear hcall hk HPS HPU
      go_wp2_with fail
      refine (clean_any (Lib.hid Kw9.out.kd.at_) HFw9 HSw9 (by omega)).mono ?_
      rintro e w10 hcall
      obtain ⟨rfl, hk⟩ := Kw9.out.call hcall
      have Kw10 := Lib.hid hk
      have HFw10 := Lib.hid (Disk.fine_clean HFw9.out)
      have HSw10 := Lib.hid (Disk.small_clean HFw9.out HSw9.out)
      clear hcall hk
      go_wp2_with fail
      refine (off_any (Lib.hid Kw10.out.kd.at_)).mono ?_
      rintro e w11 ⟨rfl, hd7, ho7⟩
      have Kw11 := Lib.hid (Kw10.out.next (hd7.up (fun _ hb => .inl hb) (grow_lt Kw10.out.kd.at_.lt ho7.size)) ho7)
      have HFw11 := Lib.hid (Disk.fine_act HFw10.out .off)
      have HSw11 := Lib.hid (Disk.small_act HSw10.out .off)
      clear hd7 ho7
      obtain ⟨c0, c1, c2, c3, c4, c5, c6, c7⟩ := eight_of (hbx.out w11 Kw11.out.kd.below)
      have HCI : Hid (∀ wx, Below w11.heap.size w11 wx → Calls Try.prog 23 #[.slice LA ln lc] wx fun e w' => ∃ A' c', e = .returned (.slice A' ln c') ∧ ln ≤ c' ∧ c' ≤ 9223372036854775807 ∧ SliceAt (Rep.int .i64) w' (btw w11.heap.size w'.heap.size) A' c' lf ∧ Below w11.heap.size wx w') := Lib.hid fun wx hb =>
        (copyInts_any LA ln lc lf (under w.heap.size) hln (Lib.hid (hl.out.keep (fun _ h => h) (HSM.out wx (Kw11.out.kd.below.trans (hb.mono Kw11.out.kd.below.size))))) (by omega)).mono fun e w' h => by
          obtain ⟨A', c', h1, h2, h3, h4, h5⟩ := h
          exact ⟨A', c', h1, h2, h3, h4.up fun b hb' => ⟨Nat.le_trans hb.size hb'.1, hb'.2⟩, h5.mono hb.size⟩
      have HST : Hid (∀ wi A' c', SliceAt (Rep.int .i64) wi (btw w11.heap.size wi.heap.size) A' c' lf → Below w11.heap.size w11 wi → Calls Try.prog 22 #[.pointer (some ⟨d, 0, none⟩), .int .i64 th, .slice A' ln c'] wi fun e w' => e = .returned (.tuple #[]) ∧ ∃ FX, Kw W w' FX d ((Disk.r5 (Disk.fromSt room fs) fl dir keep ag).off.start th lf) U fA fc ((Disk.fromSt room fs).files.map Disk.toFin)) := Lib.hid fun wi A' c' hs hb => by
        have k := Kw11.out.far hb
        refine (start_off th A' ln c' lf _ (Lib.hid k.kd.at_) HFw11 rfl hln (Lib.hid hs) (Lib.hid fun b hb' => ⟨hb'.2, fun h => ?_⟩) (by omega) ?_).mono ?_
        · have := Kw11.out.kd.at_.lt b h; have := hb'.1; omega
        · exact Nat.le_trans HSw11.out.2.2.2.2 (by omega)
        · rintro e w' ⟨rfl, h1, h2⟩
          exact ⟨rfl, _, k.next h1 h2⟩
      go_upto_region 14 with fail
      go_cut [] from 73 (fun wc => ∃ F' : Blocks, Hid (Kw W wc F' d ((Disk.r5 (Disk.fromSt room fs) fl dir keep ag).off.start th lf) U fA fc ((Disk.fromSt room fs).files.map Disk.toFin)))
      case first => 
        go_region_law (first
          | (refine step_call_law rfl 23 #[.tmp 77] #[35] rfl eCopyInts #[.slice LA ln lc] (by simp [Act.eval]) _ (HCI.out _ (by first | exact Below.refl _ _ | exact (Below.refl _ _).drew)) ?_; rintro e wi ⟨A', c', rfl, hc1, hc2, hs2, hb2⟩; have HS2 := Lib.hid hs2; have HB2 : Hid (Below w11.heap.size w11 wi) := Lib.hid ⟨hb2.os, hb2.tape, hb2.output, hb2.size, hb2.block⟩; clear hs2 hb2; obtain ⟨d0, d1, d2, d3, d4, d5, d6, d7⟩ := eight_of (hbx.out wi (Kw11.out.kd.below.trans (HB2.out.mono Kw11.out.kd.below.size))); refine ⟨_, rfl, ?_⟩)
          | (refine step_call_law rfl 22 #[.tmp 73, .tmp 75, .tmp 78] #[27, 3, 35] rfl eStart #[.pointer (some ⟨d, 0, none⟩), .int .i64 th, .slice A' ln c'] (by simp [Act.eval]) _ (HST.out wi A' c' (by first | exact HS2.out) HB2.out) ?_; rintro e w3 ⟨rfl, FX, hk3⟩; have HK3 := Lib.hid hk3; clear hk3; refine ⟨_, rfl, ?_⟩)
          | fail)
        all_goals
          go_wp2_with fail
          go_meet
          case rel => exact ⟨FX, HK3⟩
      case rest =>
      obtain ⟨Fw12, Kw12⟩ := hcut
      obtain ⟨w12, rfl⟩ : ∃ X : World, X = wc := ⟨_, rfl⟩
      have HFw12 := Lib.hid (Disk.fine_act HFw11.out (.start th lf))
      have HSw12 := Lib.hid (Disk.small_act HSw11.out (.start th lf))
      clear HCI HST Kw11 c0 c1 c2 c3 c4 c5 c6 c7
      obtain ⟨t, ht⟩ : ∃ t, t = Disk.r7 (Disk.fromSt room fs) fl dir keep ag th lf := ⟨_, rfl⟩
      obtain ⟨u, hu⟩ : ∃ u, u = t.clean.1.off.start 0 [] := ⟨_, rfl⟩
      obtain ⟨a1, a2, a3, a4, a5⟩ := Disk.rec_all HE.out fl dir keep ag th lf ht hu
      have A1 := Lib.hid a1
      have A2 := Lib.hid a2
      have A3 := Lib.hid a3
      have A4 := Lib.hid a4
      have A5 := Lib.hid a5
      have HT := Lib.hid ht
      have HU := Lib.hid hu
      clear a1 a2 a3 a4 a5 ht hu
      obtain ⟨S, hS⟩ : ∃ S, S = (Disk.fromSt room fs).files := ⟨_, rfl⟩
      have HSE := Lib.hid hS
      rw [← hS] at A4 A5 Kw12 HFN
      clear hS
      go_wp2_with fail
      refine (plan_any none 0 0 [] nob (Lib.hid Kw12.out.kd.at_) (Lib.hid rfl) (Lib.hid (SliceAt.nil _ _ _)) (Lib.hid fun _ h => h.elim) (by omega)).mono ?_
      rintro e w13 hcall
      obtain ⟨rfl, hk13⟩ := Kw12.out.call hcall
      obtain ⟨F13, hF13⟩ : ∃ X, X = grow Fw12 w12 w13 := ⟨_, rfl⟩
      have K13 : Hid (Kw W w13 F13 d t U fA fc (S.map Disk.toFin)) := Lib.hid (by rw [HT.out, hF13]; exact hk13)
      have HF13 : Hid (Disk.Fine t) := Lib.hid (by rw [HT.out]; exact Disk.fine_act HFw12.out (.plan []))
      have HS13 : Hid (Disk.Small 147 t) := Lib.hid (by rw [HT.out]; exact Disk.small_act HSw12.out (.plan []))
      clear hcall hk13 hF13
      go_wp2_with fail
      refine (clean_any (Lib.hid K13.out.kd.at_) HF13 HS13 (by omega)).mono ?_
      rintro e w14 hcall
      obtain ⟨he, hk⟩ := K13.out.call hcall
      rw [A1.out] at he
      subst he
      have K14 := Lib.hid hk
      have HF14 := Lib.hid (Disk.fine_clean HF13.out)
      have HS14 := Lib.hid (Disk.small_clean HF13.out HS13.out)
      clear hcall hk
      go_wp2_with fail
      refine (stale_any (Lib.hid K14.out.kd.at_) HF14 (by rw [A2.out]; decide)).mono ?_
      rintro e w15 ⟨sA, sn, sc, rfl, hsn, hsnc, hscm, -, hb15⟩
      obtain rfl : sn = 0 := hsn.out.trans (by rw [A2.out]; rfl)
      have K15 := Lib.hid (K14.out.far hb15)
      clear hb15 hsn
      have HPE : Hid (Calls Try.prog 25 #[.pointer (some ⟨d, 0, none⟩)] w15 fun e w' => e = .returned (.int .i64 0) ∧ w15 = w') := Lib.hid (by have h := pending_any (Lib.hid K15.out.kd.at_); rw [A3.out] at h; exact h)
      go_wp2_with fail
      refine HPE.out.mono ?_
      rintro e wq ⟨rfl, rfl⟩
      clear HPE
      go_wp2_with fail
      refine (off_any (Lib.hid K15.out.kd.at_)).mono ?_
      rintro e w16 ⟨rfl, hd7, ho7⟩
      have K16 := Lib.hid (K15.out.next (hd7.up (fun _ hb => .inl hb) (grow_lt K15.out.kd.at_.lt ho7.size)) ho7)
      have HF16 := Lib.hid (Disk.fine_act HF14.out .off)
      have HS16 := Lib.hid (Disk.small_act HS14.out .off)
      clear hd7 ho7
      go_wp2_with fail
      refine (start_off 0 none 0 0 [] nob (Lib.hid K16.out.kd.at_) HF16 rfl (Lib.hid rfl) (Lib.hid (SliceAt.nil _ _ _)) (Lib.hid fun _ h => h.elim) (by omega) (Nat.le_trans HS16.out.2.2.2.2 (by omega))).mono ?_
      rintro e w17 ⟨rfl, hd9, ho9⟩
      have k17 := K16.out.next hd9 ho9
      have hf17 := Disk.fine_act HF16.out (.start 0 [])
      obtain ⟨F17, hF17⟩ : ∃ X, X = grow (grow (grow F13 w13 w14) w15 w16) w16 w17 := ⟨_, rfl⟩
      have K17 : Hid (Kw W w17 F17 d u U fA fc (S.map Disk.toFin)) := Lib.hid (by rw [HU.out, hF17]; exact k17)
      have HF17 : Hid (Disk.Fine u) := Lib.hid (by rw [HU.out]; exact hf17)
      clear hd9 ho9 k17 hf17 hF17 K13 K14 K15 K16 HF13 HF14 HF16 HS13 HS14 HS16
      go_wp2_with fail
      refine (files_any (Lib.hid K17.out.kd.at_) HF17).mono ?_
      rintro e w18 ⟨gA, gn, gc, rfl, hgn, hgc, hgm, hgo, hb18⟩
      have K18 := Lib.hid (K17.out.far hb18)
      have HGN := hgn
      obtain ⟨-, hgs⟩ := hgo.slice
      have HGS := Lib.hid hgs
      have HGB : Hid (∀ b, btw w17.heap.size w18.heap.size b → b < w18.heap.size) := Lib.hid fun b hb => hb.2
      obtain ⟨V, hV⟩ : ∃ V, V = btw w17.heap.size w18.heap.size := ⟨_, rfl⟩
      rw [← hV] at HGS HGB
      have hfn64 : fn ≤ 64 := by
        rw [HFN.out, HSE.out]
        unfold Disk.St.files
        split
        · rw [List.length_map]; exact HF0.out.nowL
        · exact Nat.zero_le _
      have HKG : Hid (gn = (S.filter Disk.ntF).length) := Lib.hid (by rw [HGN.out]; exact A4.out)
      have hgn64 : gn ≤ 64 := by rw [HKG.out]; refine Nat.le_trans (List.length_filter_le _ _) ?_; rw [← HFN.out]; exact hfn64
      clear hgs hgo hb18 hgn hV K17
      go_wp2_with fail
      go_loopg [7, 8] fn (fun q v7 v8 wr => ∃ (i k : Nat), q = fn - i ∧ i ≤ fn ∧ k ≤ 64 ∧ v8 = .int .i64 i ∧ v7 = .int .i64 k ∧ Hid (k = ((S.take i).filter Disk.ntF).length) ∧ Hid (Below w18.heap.size w18 wr))
      case atStart => exact ⟨0, 0, by omega, by omega, by omega, rfl, rfl, Lib.hid rfl, Lib.hid (Below.refl _ _)⟩
      case round =>
        obtain ⟨i, k, rfl, hi, hk64, rfl, rfl, HK, HB⟩ := hrel
        obtain ⟨wx, rfl⟩ : ∃ W : World, W = wr := ⟨_, rfl⟩
        by_cases hin : i < fn
        · have his : i < S.length := by rw [← HFN.out]; exact hin
          obtain ⟨f, hf0⟩ : ∃ f, f = S[i] := ⟨_, rfl⟩
          have hnt := Disk.nt_take his
          have hat := Disk.nt_at his
          rw [← hf0] at hnt hat
          have e1 : (S.map Disk.toFin)[i]'(by simpa using his) = Disk.toFin f := by simp [hf0]
          obtain ⟨g1, o1, cs, rfl, hg1, hcs1, P, pc, rfl, hP, hN1, -⟩ := (K18.out.sl.keep (fun _ h => h) (Same.of_below HB.out fun b hb => (K18.out.ub b hb).1)).at_ (i := i) (by simpa using his)
          rw [e1] at hcs1 hP hN1
          obtain ⟨nm, nd⟩ := f
          simp only [Disk.toFin] at hcs1 hP hN1
          obtain ⟨nmv, hnm⟩ : ∃ x : ByteArray, x = ⟨nm.toArray⟩ := ⟨_, rfl⟩
          rw [show sv nm = .string nmv from congrArg Value.string hnm.symm] at hcs1
          obtain ⟨tb, htb⟩ : ∃ b, Disk.isTmp nm = b := ⟨_, rfl⟩
          have HIS : Hid (∀ W, Calls Try.prog 9 #[.string nmv] W fun e w' => e = .returned (.bool tb) ∧ W = w') := Lib.hid fun W => by have h := is_any nmv W; rw [show nmv.data.toList = nm by rw [hnm], htb] at h; exact h
          have hntf : Disk.ntF (nm, nd) = !tb := by unfold Disk.ntF; rw [htb]
          obtain ⟨m1, hm1'⟩ : ∃ x, x = nd.bytes.length := ⟨_, rfl⟩
          obtain ⟨x, hx⟩ : ∃ x, x = nd.syn := ⟨_, rfl⟩
          obtain ⟨bd, hbd⟩ : ∃ x, x = nd.bad := ⟨_, rfl⟩
          rw [← hm1', ← hx, ← hbd] at hcs1
          obtain ⟨b0, b1, b2, b3⟩ := hcs1.four'
          rw [show Rep.fin.n = 4 from rfl] at b0 b1 b2 b3
          cases tb
          case true =>
            rw [hntf] at hnt
            have HNT := Lib.hid hnt
            clear hnt hat e1 hcs1 hP hN1 hnm htb hntf hm1' hx hbd hg1 hf0 b1 b2 b3
            go_wp2_with fail
            refine (HIS.out wx).mono ?_
            rintro e wq ⟨rfl, rfl⟩
            go_wp2_with fail
            go_roundg (fn - (i + 1))
            case measure => omega
            case rel => exact ⟨i + 1, k, by omega, by omega, hk64, by go_num, rfl, Lib.hid (by rw [HNT.out, HK.out]; simp), HB⟩
          case false =>
            rw [hntf] at hnt
            have hat2 := hat hntf
            rw [← HK.out] at hat2
            have hkg : k < gn := by rw [HKG.out]; exact (List.getElem?_eq_some_iff.1 hat2).1
            have hku : k < u.files.length := by rw [← HGN.out]; exact hkg
            obtain ⟨g, hg0⟩ : ∃ g, g = u.files[k] := ⟨_, rfl⟩
            obtain ⟨q1, q2, q3, q4⟩ := A5.out k (nm, nd) g hat2 (by rw [hg0]; exact List.getElem?_eq_getElem hku)
            have e2 : (u.files.map Disk.toFin)[k]'(by simpa using hku) = Disk.toFin g := by simp [hg0]
            obtain ⟨g2, o2, cs, rfl, hg2, hcs2, Q, qc, rfl, hQ, -, -⟩ := (HGS.out.keep (fun _ h => h) (Same.of_below HB.out HGB.out)).at_ (i := k) (by simpa using hku)
            rw [e2] at hcs2 hQ
            obtain ⟨nm2, nd2⟩ := g
            simp only at q1 q2 q3 q4
            subst q1
            simp only [Disk.toFin] at hcs2 hQ
            rw [show sv nm2 = .string nmv from congrArg Value.string hnm.symm, q2, ← hbd] at hcs2
            obtain ⟨m2, hm2'⟩ : ∃ x, x = nd2.bytes.length := ⟨_, rfl⟩
            rw [← hm2'] at hcs2
            rw [← hx, ← hm2'] at q4
            obtain ⟨d0, d1, d2, d3⟩ := hcs2.four'
            rw [show Rep.fin.n = 4 from rfl] at d0 d1 d2 d3
            have HWI : Hid (∀ r, Calls Try.prog 26 #[.slice Q m2 qc, .slice P m1 pc, .int .i64 x] (wx.drewN r) fun e w' => e = .returned (.bool true) ∧ ∃ q, w' = wx.drewN q) := Lib.hid fun r => by
              have h := within_any (w := wx.drewN r) Q P m2 qc m1 pc x nd2.bytes nd.bytes _ _ (Lib.hid hm2') (Lib.hid hm1') (Lib.hid (hQ.keep (fun _ h => h) (Same.of_below (below_dr wx r) fun b hb => Nat.lt_of_lt_of_le (HGB.out b hb) HB.out.size))) (Lib.hid (hP.keep (fun _ h => h) (Same.of_below (below_dr wx r) fun b hb => Nat.lt_of_lt_of_le (K18.out.ub b hb).1 HB.out.size))) (Lib.hid q3) q4
              refine h.mono ?_
              rintro e w' ⟨rfl, q, rfl⟩
              exact ⟨rfl, _, World.drewN_drewN _ _ _⟩
            have HNT := Lib.hid hnt
            have hbne : ((k : Int) == (gn : Int)) = false := beq_eq_false_iff_ne.2 (by omega)
            have hpc : m1 ≤ pc := by rw [hm1']; exact hP.len
            have hpm := hP.max
            have hqc : m2 ≤ qc := by rw [hm2']; exact hQ.len
            have hqm := hQ.max
            clear hnt hat hat2 e1 e2 hcs1 hP hN1 htb hntf hm1' hx hbd hg1 hf0 hcs2 hQ hg2 hg0 q2 q3 q4 hm2' hku his hnm
            go_wp2_with fail
            refine (HIS.out wx).mono ?_
            rintro e wq ⟨rfl, rfl⟩
            go_wp2_with fail
            go_quiet ((go_at_call 26; exact HWI.out _))
            generalize hW9 : wx.drewN _ = W9
            have HB9 : Hid (Below w18.heap.size w18 W9) := Lib.hid (by rw [← hW9]; exact HB.out.trans (below_dr _ _))
            clear hW9 b0 b1 b2 b3 d0 d1 d2 d3
            go_wp2_with fail
            go_roundg (fn - (i + 1))
            case measure => omega
            case rel => exact ⟨i + 1, k + 1, by omega, by omega, by omega, by go_num, by go_num, Lib.hid (by rw [HNT.out, HK.out]; simp), HB9⟩
        · obtain rfl : i = fn := by omega
          have hkg : k = gn := by rw [HK.out, HKG.out, HFN.out, List.take_length]
          subst hkg
          go_wp2_with fail
          refine tworks_any.mono ?_
          rintro e w19 ⟨rfl, hb19⟩
          have HB19 := Lib.hid (K18.out.kd.below.trans ((HB.out.trans (hb19.mono HB.out.size)).mono K18.out.kd.below.size))
          clear hb19
          go_wp2_with fail
          go_ret
          exact ⟨rfl, hback.out _ HB19.out⟩
end
end Go.Proofs.Ytncpeogkccjmcaa
