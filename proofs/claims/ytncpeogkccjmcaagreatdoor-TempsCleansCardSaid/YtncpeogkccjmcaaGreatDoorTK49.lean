/- Texts that lead to the claim, one behind the other: The power comes, on or off: (disk.Disk).Start. Condition: the counts are below 2^40. | A step of a script on the program's disk: the walk of galleylaw29.step. Condition: the counts are below 2^39. -/
import Derived.Test.YtncpeogkccjmcaaGreatDoorTK18
import Derived.Test.YtncpeogkccjmcaaGreatDoorTK16
import Derived.Test.YtncpeogkccjmcaaGreatDoorTK31
import Derived.Test.YtncpeogkccjmcaaGreatDoorTK30
import Derived.Test.YtncpeogkccjmcaaGreatDoorTK48
import Derived.Test.YtncpeogkccjmcaaGreatDoorTK29
import Derived.Test.YtncpeogkccjmcaaGreatDoorTK46
import Derived.Deep.RegionLaw
namespace Go.Proofs.YtncpeogkccjmcaaGreatDoor
open Go.RowKit Go.ChangeShapes Go.WideShapes Go.Deep

section
variable {w : World} {F : Blocks} {d : Nat} {s : Disk.St}
set_option maxRecDepth 100000 in
theorem start_on (dir : Int) (v : Value) (HA : Hid (DiskAt w F d s)) (hon : s.on = true) : Calls Tryz.prog 43 #[.pointer (some ⟨d, 0, none⟩), .int .i64 dir, v] w fun e w' => e = .returned (.tuple #[]) ∧ w = w' := by
  obtain ⟨loc, blk, bn, bo, rowv, pA, pC, hB⟩ := HA.out
  have c3 := hB.cell 3 _ rfl
  have c4 := hB.cell 4 _ rfl
  rw [hon] at c4
  clear hB hon
  go_enter Tryz.func43, Tryz.ntmps43
  go_wp2_with (go_at_call 84; refine (ours_d c3).mono ?_; rintro e w1 ⟨rfl, rfl⟩)
  (try simp only [Exit.inBlock, Exit.then]); refine bodyPost_ret (results_none rfl _ _ _) rfl ?_
  exact ⟨rfl, rfl⟩
theorem start_any (dir : Int) (A : Option Addr) (n c : Nat) (keep : List Int) (S : Blocks) (HA : Hid (DiskAt w F d s)) (hf : Hid (Disk.Fine s)) (hn : Hid (n = keep.length)) (hl : Hid (SliceAt (Rep.int .i64) w S A c keep)) (hS : Hid (∀ b, S b → b < w.heap.size ∧ ¬ F b)) (hnb : n ≤ 1099511627776) (hrl : s.row.length ≤ 1099511627776) :
    Calls Tryz.prog 43 #[.pointer (some ⟨d, 0, none⟩), .int .i64 dir, .slice A n c] w fun e w' => e = .returned (.tuple #[]) ∧ DiskAt w' (grow F w w') d (s.start dir keep) ∧ Only F w w' := by
  cases hon : s.on with
  | false => exact start_off dir A n c keep S HA hf hon hn hl hS hnb hrl
  | true =>
    refine (start_on dir (.slice A n c) HA hon).mono ?_
    rintro e w' ⟨rfl, rfl⟩
    have : s.start dir keep = s := by unfold Disk.St.start; rw [if_pos hon]
    rw [this]
    exact ⟨rfl, (Dk.start HA.out).at_, Only.refl _ _⟩
end
end Go.Proofs.YtncpeogkccjmcaaGreatDoor
namespace Go.Proofs.YtncpeogkccjmcaaGreatDoor
open Go.RowKit Go.ChangeShapes Go.WideShapes Go.Deep

theorem e29CopyB : ∀ args w, (callFunc 37 args).run Tryz.prog w = .ok (.enter 37 args) w := enters_of Tryz.func37 (by kernel_rfl) rfl
theorem e29CopyI : ∀ args w, (callFunc 44 args).run Tryz.prog w = .ok (.enter 44 args) w := enters_of Tryz.func44 (by kernel_rfl) rfl
theorem e29App : ∀ args w, (callFunc 36 args).run Tryz.prog w = .ok (.enter 36 args) w := enters_of Tryz.func36 (by kernel_rfl) rfl
theorem e29Start : ∀ args w, (callFunc 43 args).run Tryz.prog w = .ok (.enter 43 args) w := enters_of Tryz.func43 (by kernel_rfl) rfl
section
variable {w W w' : World} {F : Blocks} {d : Nat} {s : Disk.St}
theorem dc_back {t : Disk.St} (hF : ∀ b, F b → b < w.heap.size) (hb : Below w.heap.size w W) (h1 : DiskAt w' (grow F W w') d t) (h2 : Only F W w') : DiskAt w' (grow F w w') d t ∧ Only F w w' :=
  ⟨h1.up (fun b hb' => hb'.imp id fun h => ⟨Nat.le_trans hb.size h.1, h.2⟩) (grow_lt hF (Nat.le_trans hb.size h2.size)), (Only.of_below hb F).trans h2 fun _ h => .inl h⟩
/-- Two calls, one behind the other. -/
theorem dc_two {w2 : World} {t u : Disk.St} (hF : ∀ b, F b → b < W.heap.size) (h0 : DiskAt w2 (grow F W w2) d t) (h1 : Only F W w2) (h2 : DiskAt w' (grow (grow F W w2) w2 w') d u) (h3 : Only (grow F W w2) w2 w') : DiskAt w' (grow F W w') d u ∧ Only F W w' := by
  have h : Dk W w2 F d t := ⟨h0, h1⟩
  have k := h.next hF h2 h3
  exact ⟨k.at_, k.only⟩
/-- A call behind a piece of new memory. -/
theorem dc_far {w2 : World} {t : Disk.St} (hF : ∀ b, F b → b < W.heap.size) (hb : Below W.heap.size W w2) (h1 : DiskAt w' (grow F w2 w') d t) (h2 : Only F w2 w') : DiskAt w' (grow F W w') d t ∧ Only F W w' :=
  ⟨h1.up (fun b hb' => hb'.imp id fun h => ⟨Nat.le_trans hb.size h.1, h.2⟩) (grow_lt hF (Nat.le_trans hb.size h2.size)), (Only.of_below hb F).trans h2 fun _ h => .inl h⟩
set_option linter.unusedSimpArgs false in
set_option maxRecDepth 100000 in
set_option maxHeartbeats 4000000 in
theorem step_any (o : OpP29) (v : Op29V) (S : Blocks) {k : Nat} (HA : Hid (DiskAt w F d s)) (hsm : Hid (Disk.Sm k s)) (hk : k ≤ 274877906944) (HO : Hid (OpIs29 w S o v)) (hS : Hid (∀ b, S b → b < w.heap.size ∧ ¬ F b)) (hb1 : o.bn ≤ 2147483648) (hb2 : o.fn ≤ 2147483648) (hb3 : o.kn ≤ 2147483648) :
    Calls Tryz.prog 11 #[.pointer (some ⟨d, 0, none⟩), .agg o.cells] w (DiskCall w F d (s.step29 v)) := by
  have HFI : Hid (Disk.Fine s) := Lib.hid hsm.out.fine
  have HSL : Hid (Disk.Small k s) := Lib.hid hsm.out.small
  have HRL : Hid (s.row.length ≤ 1099511627776) := Lib.hid (Nat.le_trans hsm.out.small.2.2.2.2 (by omega))
  obtain ⟨r, hr⟩ : ∃ r, r = s.step29 v := ⟨_, rfl⟩
  rw [← hr]
  have HR := Lib.hid hr
  clear hr
  obtain ⟨W, hW⟩ : ∃ W, W = w.alloc (.cells o.cells 70) := ⟨_, rfl⟩
  have hbW : Below w.heap.size w W := by rw [hW]; exact Below.alloc (Below.refl _ _) (Nat.le_refl _) _
  have hbox : W.heap[w.heap.size]? = some (.cells o.cells 70 (0, 0)) := by rw [hW]; exact heap_alloc_new _ _
  have hlt : w.heap.size < W.heap.size := (Array.getElem?_eq_some_iff.1 hbox).1
  have HFL : Hid (∀ b, F b → b < w.heap.size) := Lib.hid (DiskAt.lt HA.out)
  have HAW : Hid (DiskAt W F d s) := Lib.hid (HA.out.far hbW)
  have HBW := Lib.hid hbW
  have HOW : Hid (OpIs29 W S o v) := Lib.hid (HO.out.same (Same.of_below hbW fun b hb => (hS.out b hb).1))
  have HSW : Hid (∀ b, S b → b < W.heap.size ∧ ¬ F b) := Lib.hid fun b hb => ⟨Nat.lt_trans (hS.out b hb).1 hlt, (hS.out b hb).2⟩
  have HBX : Hid (∀ u, Only F W u → u.heap[w.heap.size]? = some (.cells o.cells 70 (0, 0))) := Lib.hid fun u hu => (hu.block _ hlt fun hf => Nat.lt_irrefl _ (HFL.out _ hf)).trans hbox
  obtain ⟨c0, c1, c2, c3, c4, c5, c6⟩ := seven29 o hbox
  have hnl := HO.out.nl
  have hdl := HO.out.dl
  have hbc := HO.out.b.len
  have hbm := HO.out.b.max
  have hfc := HO.out.f.len
  have hfm := HO.out.f.max
  have hkc := HO.out.k.len
  have hkm := HO.out.k.max
  have HNB := Lib.hid HO.out.bn
  have HNF := Lib.hid HO.out.fn
  have HNK := Lib.hid HO.out.kn
  rw [← HNB.out] at hbc
  rw [← HNF.out] at hfc
  rw [← HNK.out] at hkc
  have HNM := Lib.hid HO.out.name
  have HDS := Lib.hid HO.out.dst
  have HNU := Lib.hid HO.out.num
  have HKI := Lib.hid HO.out.kind
  obtain ⟨K1, K2, K3, K4, K5, K6, K7, K8, K9⟩ := step_kinds s v
  have KH := Lib.hid (And.intro K1 (And.intro K2 (And.intro K3 (And.intro K4 (And.intro K5 (And.intro K6 (And.intro K7 (And.intro K8 K9))))))))
  clear K1 K2 K3 K4 K5 K6 K7 K8 K9
  obtain ⟨kd, hkd⟩ : ∃ kd, kd = o.kind := ⟨_, rfl⟩
  rw [← hkd] at c0
  have HKD : Hid (kd = v.kind) := Lib.hid (hkd.trans HKI.out)
  have HW := Lib.hid hW
  unfold OpP29.cells at HW ⊢
  clear hkd hW hbox hlt hbW
  go_enter Tryz.func11, Tryz.ntmps11
  go_upto_region 1 with fail
  rw [← HW.out]
  obtain ⟨bx, hbx⟩ : ∃ bx, bx = w.heap.size := ⟨_, rfl⟩
  rw [← hbx] at HBX c0 c1 c2 c3 c4 c5 c6 ⊢
  have HBXE := Lib.hid hbx
  clear hbx
  by_cases k1 : kd = 1
  · subst k1
    have HRK : Hid (r = _) := Lib.hid (HR.out.trans (KH.out.1 HKD.out.symm))
    have HCC := Lib.hid (make_any (w := W) o.name hnl HAW HFI HSL (by omega))
    rw [HNM.out] at HCC
    obtain ⟨m, hm⟩ : ∃ m, m = s.make v.name := ⟨_, rfl⟩
    have HM := Lib.hid hm
    rw [← hm] at HCC
    rw [← HM.out] at HRK
    have HSM2 : Hid (Disk.Sm (k + 1) m.1) := Lib.hid (by rw [hm]; exact hsm.out.act (.make v.name))
    clear hm
    obtain ⟨q, hq⟩ : ∃ q, q = m.2 := ⟨_, rfl⟩
    have HQ := Lib.hid hq
    clear hq
    by_cases hq0 : q = 0
    · have hqb : (q != 0) = false := by rw [hq0]; rfl
      obtain ⟨ap, hap⟩ : ∃ ap, ap = m.1.append v.name v.b := ⟨_, rfl⟩
      have HRK2 : Hid (r = ap) := Lib.hid (by rw [hap, HRK.out, if_neg (by rw [← HQ.out, hq0]; simp)])
      have HAE := Lib.hid hap
      clear hq0 hap
      go_wp2_with fail
      refine HCC.out.mono ?_
      rintro e w2 hc
      have he := hc.1
      rw [← HQ.out] at he
      subst he
      have HC := Lib.hid hc
      clear hc
      obtain ⟨d0, d1, d2, d3, d4, d5, d6⟩ := seven29 o (HBX.out w2 HC.out.2.2)
      have HBT := Lib.hid (HOW.out.b.keep (fun _ h => h) (HC.out.2.2.same HSW.out))
      have HCB : Hid (∀ wx, Below w2.heap.size w2 wx → Calls Tryz.prog 37 #[.slice o.bA o.bn o.bc] wx fun e w' => ∃ A' c', e = .returned (.slice A' o.bn c') ∧ o.bn ≤ c' ∧ c' ≤ 9223372036854775807 ∧ SliceAt Rep.byte w' (btw w2.heap.size w'.heap.size) A' c' v.b ∧ Below w2.heap.size wx w') := Lib.hid fun wx hb =>
        (copyB29 o.bA o.bn o.bc v.b wx S HNB.out (HBT.out.keep (fun _ h => h) (Same.of_below hb fun b hb' => Nat.lt_of_lt_of_le (HSW.out b hb').1 HC.out.2.2.size)) (by omega)).mono fun e w' h => by
          obtain ⟨A', c', h1, h2, h3, h4, h5⟩ := h
          obtain ⟨A2, c2, he, hs⟩ := h4.out.slice
          simp only [Value.slice.injEq] at he
          obtain ⟨rfl, -, rfl⟩ := he
          exact ⟨_, _, h1, h2, h3, hs.up fun b hb' => by
            rcases hb' with ⟨x1, x2, -⟩ | h
            · exact ⟨Nat.le_trans hb.size x1, x2⟩
            · exact h.elim, h5.out.mono hb.size⟩
      have HAP : Hid (∀ wi A' c', SliceAt Rep.byte wi (btw w2.heap.size wi.heap.size) A' c' v.b → Below w2.heap.size w2 wi → Calls Tryz.prog 36 #[.pointer (some ⟨d, 0, none⟩), .string o.name, .slice A' o.bn c'] wi fun e w' => e = .returned (.int .i64 ap.2) ∧ DiskAt w' (grow F W w') d ap.1 ∧ Only F W w') := Lib.hid fun wi A' c' hs hb => by
        have k0 : Dk W w2 F d m.1 := ⟨HC.out.2.1, HC.out.2.2⟩
        have hFW : ∀ b, F b → b < W.heap.size := fun b hb' => Nat.lt_of_lt_of_le (HFL.out b hb') HBW.out.size
        have k1 := k0.far hFW hb
        have hdis : Hid (∀ b, btw w2.heap.size wi.heap.size b → b < wi.heap.size ∧ ¬ grow F W w2 b) := Lib.hid fun b hb' => ⟨hb'.2, fun h => by
          rcases h with h | h
          · have := hFW b h; have := HC.out.2.2.size; have := hb'.1; omega
          · have := h.2; have := hb'.1; omega⟩
        have hap := append_any (w := wi) o.name hnl A' o.bn c' v.b _ HNB (Lib.hid hs) hdis (by omega) (Lib.hid (k0.at_.far hb)) (Lib.hid HSM2.out.fine) (Lib.hid HSM2.out.small) (by omega)
        rw [HNM.out, ← HAE.out] at hap
        refine hap.mono ?_
        rintro e w' ⟨h1, h2, h3⟩
        obtain ⟨y1, y2⟩ := dc_two hFW k1.at_ k1.only (h2.up (fun b hb' => hb'.imp (fun hb' => hb'.imp id fun h => ⟨h.1, Nat.lt_of_lt_of_le h.2 hb.size⟩) id) (grow_lt k1.at_.lt h3.size)) (h3.mono fun b hb' => hb'.imp id fun h => ⟨h.1, Nat.lt_of_lt_of_le h.2 hb.size⟩)
        exact ⟨h1, y1, y2⟩
      go_upto_region 6 with fail
      go_cut [4] from 17 (fun v4 wc => v4 = .int .i64 ap.2 ∧ Hid (DiskAt wc (grow F W wc) d ap.1) ∧ Hid (Only F W wc))
      case first =>
        go_region_law (first
          | (refine step_call_law rfl 37 #[.tmp 21] #[67] rfl e29CopyB #[.slice o.bA o.bn o.bc] (by simp [Act.eval]) _ (HCB.out _ (by first | exact Below.refl _ _ | exact (Below.refl _ _).drew)) ?_; rintro e wi ⟨A', c', rfl, hc1, hc2, hs2, hb2'⟩; have HS2 := Lib.hid hs2; have HB2 : Hid (Below w2.heap.size w2 wi) := Lib.hid ⟨hb2'.os, hb2'.tape, hb2'.output, hb2'.size, hb2'.block⟩; clear hs2 hb2'; obtain ⟨e0, e1, e2, e3, e4, e5, e6⟩ := seven29 o (HBX.out wi (HC.out.2.2.trans (Only.of_below HB2.out F) fun _ h => .inl h)); refine ⟨_, rfl, ?_⟩)
          | (refine step_call_law rfl 36 #[.tmp 17, .tmp 19, .tmp 22] #[25, 9, 67] rfl e29App #[.pointer (some ⟨d, 0, none⟩), .string o.name, .slice A' o.bn c'] (by simp [Act.eval]) _ (HAP.out wi A' c' (by first | exact HS2.out) HB2.out) ?_; rintro e w3 ⟨rfl, hk3, ho3⟩; have HK3 := Lib.hid hk3; have HO3 := Lib.hid ho3; clear hk3 ho3; refine ⟨_, rfl, ?_⟩)
          | fail)
        all_goals
          go_wp2_with fail
          go_meet
          case rel => exact ⟨rfl, HK3, HO3⟩
      case rest =>
        obtain ⟨rfl, HK4, HO4⟩ := hcut
        go_wp2_with fail
        go_ret
        rw [HRK2.out]
        obtain ⟨hz1, hz2⟩ := dc_back HFL.out HBW.out HK4.out HO4.out
        exact ⟨rfl, hz1, hz2⟩
    · have hqb : (q != 0) = true := bne_iff_ne.2 hq0
      have HRK2 : Hid (r = m) := Lib.hid (by rw [HRK.out, if_pos (by rw [← HQ.out]; exact hq0)])
      clear hq0
      go_wp2_with fail
      refine HCC.out.mono ?_
      rintro e w2 hc
      have he := hc.1
      rw [← HQ.out] at he
      subst he
      have HC := Lib.hid hc
      clear hc
      go_wp2_with fail
      go_ret
      rw [HRK2.out, HQ.out]
      obtain ⟨hz1, hz2⟩ := dc_back HFL.out HBW.out HC.out.2.1 HC.out.2.2
      exact ⟨rfl, hz1, hz2⟩
  have k1b : (kd == 1) = false := beq_eq_false_iff_ne.2 k1
  have KN1 : Hid (v.kind ≠ 1) := Lib.hid (by rw [← HKD.out]; exact k1)
  clear k1
  by_cases k2 : kd = 2
  · subst k2
    have HRK : Hid (r = _) := Lib.hid (HR.out.trans (KH.out.2.1 HKD.out.symm))
    have HCC := Lib.hid (sync_any (w := W) o.name hnl HAW HFI HSL (by omega))
    try rw [HNM.out] at HCC
    try rw [HDS.out] at HCC
    go_wp2_with fail
    refine HCC.out.mono ?_
    rintro e w2 hc
    have he := hc.1
    subst he
    have HC := Lib.hid hc
    clear hc
    go_wp2_with fail
    go_ret
    rw [HRK.out]
    obtain ⟨hz1, hz2⟩ := dc_back HFL.out HBW.out HC.out.2.1 HC.out.2.2
    exact ⟨rfl, hz1, hz2⟩
  have k2b : (kd == 2) = false := beq_eq_false_iff_ne.2 k2
  have KN2 : Hid (v.kind ≠ 2) := Lib.hid (by rw [← HKD.out]; exact k2)
  clear k2
  by_cases k3 : kd = 3
  · subst k3
    have HRK : Hid (r = _) := Lib.hid (HR.out.trans (KH.out.2.2.1 HKD.out.symm))
    have HCC := Lib.hid (rename_any (w := W) o.name o.dst hnl hdl HAW HFI HSL (by omega))
    try rw [HNM.out] at HCC
    try rw [HDS.out] at HCC
    go_wp2_with fail
    refine HCC.out.mono ?_
    rintro e w2 hc
    have he := hc.1
    subst he
    have HC := Lib.hid hc
    clear hc
    go_wp2_with fail
    go_ret
    rw [HRK.out]
    obtain ⟨hz1, hz2⟩ := dc_back HFL.out HBW.out HC.out.2.1 HC.out.2.2
    exact ⟨rfl, hz1, hz2⟩
  have k3b : (kd == 3) = false := beq_eq_false_iff_ne.2 k3
  have KN3 : Hid (v.kind ≠ 3) := Lib.hid (by rw [← HKD.out]; exact k3)
  clear k3
  by_cases k4 : kd = 4
  · subst k4
    have HRK : Hid (r = _) := Lib.hid (HR.out.trans (KH.out.2.2.2.1 HKD.out.symm))
    have HCC := Lib.hid (syncDir_any (w := W) HAW HFI HSL (by omega))
    try rw [HNM.out] at HCC
    try rw [HDS.out] at HCC
    go_wp2_with fail
    refine HCC.out.mono ?_
    rintro e w2 hc
    have he := hc.1
    subst he
    have HC := Lib.hid hc
    clear hc
    go_wp2_with fail
    go_ret
    rw [HRK.out]
    obtain ⟨hz1, hz2⟩ := dc_back HFL.out HBW.out HC.out.2.1 HC.out.2.2
    exact ⟨rfl, hz1, hz2⟩
  have k4b : (kd == 4) = false := beq_eq_false_iff_ne.2 k4
  have KN4 : Hid (v.kind ≠ 4) := Lib.hid (by rw [← HKD.out]; exact k4)
  clear k4
  by_cases k5 : kd = 5
  · subst k5
    have HRK : Hid (r = _) := Lib.hid (HR.out.trans (KH.out.2.2.2.2.1 HKD.out.symm))
    have hFW : Hid (∀ b, F b → b < W.heap.size) := Lib.hid fun b hb => Nat.lt_of_lt_of_le (HFL.out b hb) HBW.out.size
    have HCF := Lib.hid (copyFaults_any (w := W) o.fA o.fn o.fc v.faults S HNF (Lib.hid HOW.out.f) (by omega))
    go_wp2_with fail
    refine HCF.out.mono ?_
    rintro e w2 ⟨A2, c2, rfl, hc1, hc2, hs2, hb2'⟩
    have HS2 := Lib.hid hs2
    have HB2 := Lib.hid hb2'
    clear hs2 hb2'
    have HPL := Lib.hid (plan_any (w := w2) A2 o.fn c2 v.faults _ (Lib.hid (HAW.out.far HB2.out)) HNF HS2 (Lib.hid fun b hb' => ⟨hb'.2, fun h => by have := hFW.out b h; have := hb'.1; omega⟩) (by omega))
    go_wp2_with fail
    refine HPL.out.mono ?_
    rintro e w3 hc
    have he := hc.1
    subst he
    have HC := Lib.hid hc
    clear hc
    go_wp2_with fail
    go_ret
    rw [HRK.out]
    obtain ⟨hy1, hy2⟩ := dc_far hFW.out HB2.out HC.out.2.1 HC.out.2.2
    obtain ⟨hz1, hz2⟩ := dc_back HFL.out HBW.out hy1 hy2
    exact ⟨rfl, hz1, hz2⟩
  have k5b : (kd == 5) = false := beq_eq_false_iff_ne.2 k5
  have KN5 : Hid (v.kind ≠ 5) := Lib.hid (by rw [← HKD.out]; exact k5)
  clear k5
  by_cases k6 : kd = 6
  · subst k6
    have HRK : Hid (r = _) := Lib.hid (HR.out.trans (KH.out.2.2.2.2.2.1 HKD.out.symm))
    have HCC := Lib.hid (off_any (w := W) HAW)
    go_wp2_with fail
    refine HCC.out.mono ?_
    rintro e w2 ⟨rfl, hc1, hc2⟩
    have HC1 := Lib.hid hc1
    have HC2 := Lib.hid hc2
    clear hc1 hc2
    go_wp2_with fail
    go_ret
    rw [HRK.out]
    obtain ⟨hz1, hz2⟩ := dc_back HFL.out HBW.out (HC1.out.up (fun _ h => .inl h) (grow_lt HAW.out.lt HC2.out.size)) HC2.out
    exact ⟨rfl, hz1, hz2⟩
  have k6b : (kd == 6) = false := beq_eq_false_iff_ne.2 k6
  have KN6 : Hid (v.kind ≠ 6) := Lib.hid (by rw [← HKD.out]; exact k6)
  clear k6
  by_cases k7 : kd = 7
  · subst k7
    have HRK : Hid (r = _) := Lib.hid (HR.out.trans (KH.out.2.2.2.2.2.2.1 HKD.out.symm))
    have hFW : Hid (∀ b, F b → b < W.heap.size) := Lib.hid fun b hb => Nat.lt_of_lt_of_le (HFL.out b hb) HBW.out.size
    obtain ⟨st, hst⟩ : ∃ st, st = s.start v.num v.keep := ⟨_, rfl⟩
    rw [← hst] at HRK
    have HSE := Lib.hid hst
    clear hst
    have HCI : Hid (∀ wx, Below W.heap.size W wx → Calls Tryz.prog 44 #[.slice o.kA o.kn o.kc] wx fun e w' => ∃ A' c', e = .returned (.slice A' o.kn c') ∧ o.kn ≤ c' ∧ c' ≤ 9223372036854775807 ∧ SliceAt (Rep.int .i64) w' (btw W.heap.size w'.heap.size) A' c' v.keep ∧ Below W.heap.size wx w') := Lib.hid fun wx hb =>
      (copyInts_any o.kA o.kn o.kc v.keep S HNK (Lib.hid (HOW.out.k.keep (fun _ h => h) (Same.of_below hb fun b hb' => (HSW.out b hb').1))) (by omega)).mono fun e w' h => by
        obtain ⟨A', c', h1, h2, h3, h4, h5⟩ := h
        exact ⟨A', c', h1, h2, h3, h4.up fun b hb' => ⟨Nat.le_trans hb.size hb'.1, hb'.2⟩, h5.mono hb.size⟩
    have HST : Hid (∀ wi A' c', SliceAt (Rep.int .i64) wi (btw W.heap.size wi.heap.size) A' c' v.keep → Below W.heap.size W wi → Calls Tryz.prog 43 #[.pointer (some ⟨d, 0, none⟩), .int .i64 o.num, .slice A' o.kn c'] wi fun e w' => e = .returned (.tuple #[]) ∧ DiskAt w' (grow F W w') d st ∧ Only F W w') := Lib.hid fun wi A' c' hs hb => by
      have hss := start_any (w := wi) o.num A' o.kn c' v.keep _ (Lib.hid (HAW.out.far hb)) HFI HNK (Lib.hid hs) (Lib.hid fun b hb' => ⟨hb'.2, fun h => by have := hFW.out b h; have := hb'.1; omega⟩) (by omega) HRL.out
      rw [HNU.out, ← HSE.out] at hss
      rw [HNU.out]
      refine hss.mono ?_
      rintro e w' ⟨rfl, h1, h2⟩
      obtain ⟨hy1, hy2⟩ := dc_far hFW.out hb h1 h2
      exact ⟨rfl, hy1, hy2⟩
    go_upto_region 18 with fail
    go_region_law (first
      | (refine step_call_law rfl 44 #[.tmp 59] #[68] rfl e29CopyI #[.slice o.kA o.kn o.kc] (by simp [Act.eval]) _ (HCI.out _ (by first | exact Below.refl _ _ | exact (Below.refl _ _).drew)) ?_; rintro e wi ⟨A', c', rfl, hc1, hc2, hs2, hb2'⟩; have HS2 := Lib.hid hs2; have HB2 : Hid (Below W.heap.size W wi) := Lib.hid ⟨hb2'.os, hb2'.tape, hb2'.output, hb2'.size, hb2'.block⟩; clear hs2 hb2'; obtain ⟨e0, e1, e2, e3, e4, e5, e6⟩ := seven29 o (HBX.out wi (Only.of_below HB2.out F)); refine ⟨_, rfl, ?_⟩)
      | (refine step_call_law rfl 43 #[.tmp 55, .tmp 57, .tmp 60] #[25, 3, 68] rfl e29Start #[.pointer (some ⟨d, 0, none⟩), .int .i64 o.num, .slice A' o.kn c'] (by simp [Act.eval]) _ (HST.out wi A' c' (by first | exact HS2.out) HB2.out) ?_; rintro e w3 ⟨rfl, hk3, ho3⟩; have HK3 := Lib.hid hk3; have HO3 := Lib.hid ho3; clear hk3 ho3; refine ⟨_, rfl, ?_⟩)
      | fail)
    all_goals
      go_wp2_with fail
      go_ret
      rw [HRK.out]
      obtain ⟨hz1, hz2⟩ := dc_back HFL.out HBW.out HK3.out HO3.out
      exact ⟨rfl, hz1, hz2⟩
  have k7b : (kd == 7) = false := beq_eq_false_iff_ne.2 k7
  have KN7 : Hid (v.kind ≠ 7) := Lib.hid (by rw [← HKD.out]; exact k7)
  clear k7
  by_cases k8 : kd = 8
  · subst k8
    have HRK : Hid (r = _) := Lib.hid (HR.out.trans (KH.out.2.2.2.2.2.2.2.1 HKD.out.symm))
    have HCC := Lib.hid (clean_any (w := W) HAW HFI HSL (by omega))
    try rw [HNM.out] at HCC
    try rw [HDS.out] at HCC
    go_wp2_with fail
    refine HCC.out.mono ?_
    rintro e w2 hc
    have he := hc.1
    subst he
    have HC := Lib.hid hc
    clear hc
    go_wp2_with fail
    go_ret
    rw [HRK.out]
    obtain ⟨hz1, hz2⟩ := dc_back HFL.out HBW.out HC.out.2.1 HC.out.2.2
    exact ⟨rfl, hz1, hz2⟩
  have k8b : (kd == 8) = false := beq_eq_false_iff_ne.2 k8
  have KN8 : Hid (v.kind ≠ 8) := Lib.hid (by rw [← HKD.out]; exact k8)
  clear k8
  have HRK : Hid (r = (s, 0)) := Lib.hid (HR.out.trans (KH.out.2.2.2.2.2.2.2.2 KN1.out KN2.out KN3.out KN4.out KN5.out KN6.out KN7.out KN8.out))
  go_wp2_with fail
  go_ret
  rw [HRK.out]
  obtain ⟨hz1, hz2⟩ := dc_back HFL.out HBW.out (HAW.out.up (fun _ h => .inl h) (grow_lt HAW.out.lt (Nat.le_refl _))) (Only.refl F W)
  exact ⟨rfl, hz1, hz2⟩
end
end Go.Proofs.YtncpeogkccjmcaaGreatDoor
