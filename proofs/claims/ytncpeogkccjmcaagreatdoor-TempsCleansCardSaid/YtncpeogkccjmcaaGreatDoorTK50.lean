/- Texts that lead to the claim, one behind the other: galleyref29.Is: the walk. No conditions. | The document's temporary names, and its cleaning: the walks of galleyref29.Stale, Clean. Condition: the counts are below 2^39. | A step of a script on the document's disk: the walk of galleylaw29.due. Condition: the counts are below 2^39. -/
import Derived.Test.YtncpeogkccjmcaaGreatDoorTK27
import Derived.Test.YtncpeogkccjmcaaGreatDoorTK19
import Derived.Test.YtncpeogkccjmcaaGreatDoorTK31
import Derived.Test.YtncpeogkccjmcaaGreatDoorTK24
import Derived.Test.YtncpeogkccjmcaaGreatDoorTK30
import Derived.Test.YtncpeogkccjmcaaGreatDoorTK26
namespace Go.Proofs.YtncpeogkccjmcaaGreatDoor
open Go.RowKit Go.ChangeShapes Go.WideShapes Go.Deep

set_option maxRecDepth 100000 in
theorem is_ref (s : ByteArray) (w : World) : Calls Tryz.prog 62 #[.string s] w fun e w' => e = .returned (.bool (Disk.isTmp s.data.toList)) ∧ w = w' := by
  by_cases h : 8 ≤ s.size
  · have e1 : decide ((8 : Int) ≤ (s.size : Int)) = true := decide_eq_true (by omega)
    have hc := tmp_cut s
    obtain ⟨q, hq⟩ : ∃ q, Disk.isTmp s.data.toList = q := ⟨_, rfl⟩
    rw [hq] at hc ⊢
    clear hq
    go_enter Tryz.func62, Tryz.ntmps62
    go_wp2_with fail
    go_ret
    exact ⟨rfl, rfl⟩
  · have e1 : decide ((8 : Int) ≤ (s.size : Int)) = false := decide_eq_false (by omega)
    rw [Disk.isTmp_short (by rw [show s.data.toList.length = s.size from Array.length_toList]; omega)]
    go_enter Tryz.func62, Tryz.ntmps62
    go_wp2_with fail
    go_ret
    exact ⟨rfl, rfl⟩
end Go.Proofs.YtncpeogkccjmcaaGreatDoor
namespace Go.Proofs.YtncpeogkccjmcaaGreatDoor
open Go.RowKit Go.ChangeShapes Go.WideShapes Go.Deep

theorem filt_map_snoc {L : List Disk.Nm} {j : Nat} (hj : j < L.length) (f : Disk.Nm → ByteArray) : ((L.take (j + 1)).filter Disk.isTmp).map f = ((L.take j).filter Disk.isTmp).map f ++ (if Disk.isTmp L[j] then [f L[j]] else []) := by
  rw [filt_snoc hj, List.map_append]
  cases Disk.isTmp L[j] <;> rfl
section
variable {w : World} {F : Blocks} {d : Nat} {s : Disk.St}
/-- New memory that reads as names. -/
def StrsR (w : World) (l : List Disk.Nm) (e : Ending) (w' : World) : Prop :=
  ∃ A n c, e = .returned (.slice A n c) ∧ Hid (n = l.length) ∧ n ≤ c ∧ c ≤ 9223372036854775807 ∧ Own Rep.str 9 w' w.heap.size nob (.slice A n c) (l.map baR) ∧ Below w.heap.size w w'
set_option maxRecDepth 100000 in
set_option maxHeartbeats 2000000 in
theorem refStale_any (HA : Hid (RefFA w F d s)) (hnl : s.now.length ≤ 64) : Calls Tryz.prog 15 #[.pointer (some ⟨d, 0, none⟩)] w (StrsR w s.stale) := by
  have HN := Lib.hid (refNames_any HA (by omega))
  obtain ⟨L, hL⟩ : ∃ L, L = s.names := ⟨_, rfl⟩
  have hLl : L.length ≤ 64 := by
    rw [hL]; unfold Disk.St.names
    split
    · simp [Disk.keys]; exact hnl
    · simp
  have HST : Hid (s.stale = L.filter Disk.isTmp) := Lib.hid (by rw [hL]; rfl)
  rw [← hL] at HN
  clear hL hnl HA
  go_enter Tryz.func15, Tryz.ntmps15
  go_wp2_with fail
  refine HN.out.mono ?_
  rintro e w1 ⟨v, rfl, hown, hb1⟩
  obtain ⟨A, n, c, rfl, hn, hnc, hcm⟩ := hown.form
  obtain ⟨A9, c9, he9, hsl⟩ := hown.slice
  simp only [Value.slice.injEq] at he9
  obtain ⟨rfl, -, rfl⟩ := he9
  have HSL := Lib.hid (hsl.up (S' := fun b => b < w1.heap.size) fun b hb => by
    rcases hb with ⟨-, h, -⟩ | h
    · exact h
    · exact h.elim)
  have HNL : Hid (n = L.length) := Lib.hid (by rw [hn.out, List.length_map])
  have HB1 := Lib.hid hb1
  have hn64 : n ≤ 64 := by rw [HNL.out]; exact hLl
  clear hown hsl hb1 hn HN
  go_wp2_with fail
  go_loopg [3, 5] n (fun q s3 s5 wr => ∃ (j : Nat) (A3 : Option Addr) (n3 c3 : Nat), q = n - j ∧ j ≤ n ∧ s5 = .int .i64 j ∧ s3 = .slice A3 n3 c3 ∧ n3 ≤ c3 ∧ c3 ≤ 9223372036854775807 ∧ Hid (n3 = ((L.take j).filter Disk.isTmp).length) ∧ Hid (Own Rep.str 9 wr w1.heap.size nob (.slice A3 n3 c3) (((L.take j).filter Disk.isTmp).map baR)) ∧ Hid (Below w1.heap.size w1 wr))
  case atStart => exact ⟨0, none, 0, 0, rfl, by omega, rfl, rfl, Nat.le_refl _, by omega, Lib.hid rfl, Lib.hid (Own.nil _ _ _ _), Lib.hid (Below.refl _ _)⟩
  case round =>
    obtain ⟨j, A3, n3, c3, rfl, hj, rfl, rfl, hnc3, hcm3, HN3, HO, HB⟩ := hrel
    by_cases hjn : j < n
    · have hjl : j < L.length := by rw [← HNL.out]; exact hjn
      obtain ⟨g, o, cs, rfl, hg, hc, hcs, hks⟩ := HSL.out.at_ (i := j) (by rw [List.length_map]; exact hjl)
      have hkj : (L.map baR)[j]'(by rw [List.length_map]; exact hjl) = baR L[j] := by simp
      rw [hkj] at hcs hks
      subst hcs
      have hcw := (hc.below HB.out hg).one
      rw [show Rep.str.n = 1 from rfl, Nat.mul_one] at hcw
      obtain ⟨x, hx⟩ : ∃ x : ByteArray, x = baR L[j] := ⟨_, rfl⟩
      rw [← hx] at hcw hks
      obtain ⟨tb, htb⟩ : ∃ tb, Disk.isTmp L[j] = tb := ⟨_, rfl⟩
      have HIS : Hid (∀ W, Calls Tryz.prog 62 #[.string x] W fun e w' => e = .returned (.bool tb) ∧ W = w') := Lib.hid fun W => by
        have h := is_ref x W
        rw [show x.data.toList = L[j] by rw [hx]; rfl, htb] at h
        exact h
      have HFS := Lib.hid (filt_map_snoc hjl baR)
      have HFL : Hid (((L.take (j + 1)).filter Disk.isTmp).length = ((L.take j).filter Disk.isTmp).length + (if tb then 1 else 0)) := Lib.hid (by rw [filt_snoc hjl, htb, List.length_append]; cases tb <;> rfl)
      have HTB := Lib.hid htb
      have HXE := Lib.hid hx
      have hln : ((L.take j).filter Disk.isTmp).length ≤ 64 := Nat.le_trans (List.length_filter_le _ _) (by rw [List.length_take]; omega)
      have HLN := Lib.hid hln
      have hxs : x.size ≤ maxLen := hks
      have hji : (j : Int) < (n : Int) := by omega
      have hca : ∀ ob, (wr.alloc ob).cell? ⟨g, o + j, none⟩ = some (.string x) := fun ob => ((Below.alloc (Below.refl wr.heap.size wr) (Nat.le_refl _) ob).cell (p := ⟨g, o + j, none⟩) (World.block_lt_of_cell? wr _ hcw)).trans hcw
      clear hc hg hkj hx htb hln
      cases tb
      · go_wp2_with fail
        refine (HIS.out _).mono ?_
        rintro e w2 ⟨rfl, rfl⟩
        go_wp2_with fail
        go_roundg (n - (j + 1))
        case measure => omega
        case rel => exact ⟨j + 1, A3, n3, c3, rfl, by omega, by go_num, rfl, hnc3, hcm3, Lib.hid (by rw [HFL.out]; simpa using HN3.out), Lib.hid (by rw [HFS.out, HTB.out]; simpa using HO.out), HB⟩
      · go_wp2_with fail
        refine (HIS.out _).mono ?_
        rintro e w2 ⟨rfl, rfl⟩
        go_wp2_with (at_builtin; refine wpList_append_Own _ rfl (.tmp 21) (.tmp 26) 41 rfl Rep.str w1.heap.size 9 16 stStrR nob (.slice A3 n3 c3) _ rfl (HO.out.alloc _) _ _ 1 [x] rfl (str_one _ x _ hxs) nob (fun _ h => h.elim) (fun _ h => h) (fun _ _ h => h) (by have := HLN.out; simp at this ⊢; omega) (by have := HLN.out; simp at this ⊢; omega) (by have := HB.out.size; simp; omega) ?_; intro v4 w4 hown4 hg4 hat4; obtain ⟨A4, n4, c4, rfl, hn4, hnc4, hcm4⟩ := hown4.form; have HN4 := hn4; have HO4 := Lib.hid hown4; have HB4 : Hid (Below w1.heap.size w1 w4) := Lib.hid (below_own (HB.out.alloc HB.out.size _) (HO.out.alloc _) hg4 (by have := HB.out.size; simp; omega)); clear hown4 hg4 hat4 hn4)
        go_roundg (n - (j + 1))
        case measure => omega
        case rel => exact ⟨j + 1, A4, n4, c4, rfl, by omega, by go_num, rfl, hnc4, hcm4, Lib.hid (by rw [HN4.out, HFL.out]; simp), Lib.hid (by rw [HFS.out, HTB.out, ← HXE.out]; exact HO4.out), HB4⟩
    · obtain rfl : j = n := by omega
      have HTK : Hid ((L.take j).filter Disk.isTmp = s.stale) := Lib.hid (by rw [HNL.out, List.take_length, HST.out])
      go_wp2_with fail
      go_ret
      refine ⟨A3, n3, c3, rfl, Lib.hid (by rw [HN3.out, HTK.out]), hnc3, hcm3, ?_, HB1.out.trans (HB.out.mono HB1.out.size)⟩
      have h := HO.out.low HB1.out.size
      rw [HTK.out] at h
      exact h
set_option maxRecDepth 100000 in
set_option maxHeartbeats 2000000 in
theorem refClean_any {k : Nat} (HA : Hid (RefFA w F d s)) (hsm : Hid (Disk.Sm k s)) (hk : k ≤ 274877906944) : Calls Tryz.prog 53 #[.pointer (some ⟨d, 0, none⟩)] w (RefCall w F d s.clean) := by
  have HP := Lib.hid (refPower_any HA)
  have HS := Lib.hid (refStale_any HA hsm.out.fine.nowL)
  have HLT := Lib.hid HA.out.lt
  obtain ⟨on, hon⟩ : ∃ x, x = s.on := ⟨_, rfl⟩
  rw [← hon] at HP
  cases on
  case false =>
    have HE : Hid (s.clean = (s, 24)) := Lib.hid (by unfold Disk.St.clean; rw [if_pos hon.symm])
    clear hon
    go_enter Tryz.func53, Tryz.ntmps53
    go_wp2_with fail
    refine HP.out.mono ?_
    rintro e w1 ⟨rfl, rfl⟩
    go_wp2_with fail
    go_ret
    rw [HE.out]
    exact (Rk.start HA.out).done rfl
  have HE : Hid (s.clean = if (s.cleanGo s.stale).2 ≠ 0 then s.cleanGo s.stale else if s.stale = [] then (s, 0) else (s.cleanGo s.stale).1.syncDir) := Lib.hid (by unfold Disk.St.clean; rw [if_neg (by rw [← hon]; simp)])
  obtain ⟨L, hL⟩ : ∃ L, L = s.stale := ⟨_, rfl⟩
  have hLl : L.length ≤ 64 := by rw [hL]; exact Disk.stale_len hsm.out.fine
  rw [← hL] at HE HS
  clear hon hL
  go_enter Tryz.func53, Tryz.ntmps53
  go_wp2_with fail
  refine HP.out.mono ?_
  rintro e w0 ⟨rfl, hw0⟩
  subst hw0
  go_wp2_with fail
  refine HS.out.mono ?_
  rintro e w1 ⟨A, n, c, rfl, hn, hnc, hcm, hown, hb1⟩
  obtain ⟨A9, c9, he9, hsl⟩ := hown.slice
  simp only [Value.slice.injEq] at he9
  obtain ⟨rfl, -, rfl⟩ := he9
  have HSL := Lib.hid (hsl.up (S' := fun b => w0.heap.size ≤ b ∧ b < w1.heap.size) fun b hb => by
    rcases hb with ⟨h0, h, -⟩ | h
    · exact ⟨h0, h⟩
    · exact h.elim)
  have HNL := hn
  have HB1 := Lib.hid hb1
  have hn64 : n ≤ 64 := by rw [HNL.out]; exact hLl
  have HR1 : Hid (RefFA w1 F d s) := Lib.hid (HA.out.far hb1)
  have HL1 := Lib.hid HR1.out.lt
  clear hown hsl hb1 hn HP HS
  go_wp2_with fail
  go_loopg [4] n (fun q s4 wr => ∃ (j : Nat), q = n - j ∧ j ≤ n ∧ s4 = .int .i64 j ∧ Hid ((s.cleanGo (L.take j)).2 = 0) ∧ Hid (Rk w1 wr F d (s.cleanGo (L.take j)).1) ∧ Hid (Disk.Sm (k + j) (s.cleanGo (L.take j)).1))
  case atStart => exact ⟨0, rfl, by omega, rfl, Lib.hid rfl, Lib.hid (Rk.start HR1.out), hsm⟩
  case round =>
    obtain ⟨j, rfl, hj, rfl, H0, HK, HSM⟩ := hrel
    by_cases hjn : j < n
    · have hjl : j < L.length := by rw [← HNL.out]; exact hjn
      obtain ⟨g, o, cs, rfl, hg, hc, hcs, hks⟩ := HSL.out.at_ (i := j) (by rw [List.length_map]; exact hjl)
      have hkj : (L.map baR)[j]'(by rw [List.length_map]; exact hjl) = baR L[j] := by simp
      rw [hkj] at hcs hks
      subst hcs
      obtain ⟨x, hx⟩ : ∃ x : ByteArray, x = baR L[j] := ⟨_, rfl⟩
      rw [← hx] at hc hks
      have hcw : wr.cell? ⟨g, o + j, none⟩ = some (.string x) := by
        have h1 := hc.one
        rw [show Rep.str.n = 1 from rfl, Nat.mul_one] at h1
        rw [← h1]
        have e : wr.heap[g]? = w1.heap[g]? := HK.out.only.block g hg.2 fun hf => by have := HLT.out g hf; have := hg.1; omega
        simp [World.cell?, e]
      have HRM := Lib.hid (sRemove (w := wr) x (Lib.hid HK.out.at_) HSM (by omega) hks)
      have HCG := Lib.hid (Disk.cleanGo_take29 L j hjl H0.out)
      rw [show x.data.toList = L[j] by rw [hx]; rfl] at HRM
      rw [← HCG.out] at HRM
      obtain ⟨q, hq⟩ : ∃ q, q = (s.cleanGo (L.take (j + 1))).2 := ⟨_, rfl⟩
      have HQ := Lib.hid hq
      have hji : (j : Int) < (n : Int) := by omega
      clear hc hg hkj hx hks hq
      by_cases hq0 : q = 0
      · have hqb : (q != 0) = false := by rw [hq0]; rfl
        have HQ0 := Lib.hid hq0
        clear hq0
        go_wp2_with fail
        refine HRM.out.mono ?_
        rintro e w2 hcl
        obtain ⟨he, hk2⟩ := HK.out.call HL1.out hcl
        rw [← HQ.out] at he
        subst he
        have HK2 := Lib.hid hk2
        clear hcl hk2
        go_wp2_with fail
        go_roundg (n - (j + 1))
        case measure => omega
        case rel => exact ⟨j + 1, rfl, by omega, by go_num, Lib.hid (HQ.out.symm.trans HQ0.out), HK2, Lib.hid (by
          have h := (HSM.out.act (.remove L[j]))
          rw [show ((s.cleanGo (L.take j)).1.act (.remove L[j])).1 = (s.cleanGo (L.take (j + 1))).1 by rw [HCG.out]; rfl] at h
          exact h)⟩
      · have hqb : (q != 0) = true := bne_iff_ne.2 hq0
        have HST := Lib.hid (Disk.cleanGo_stop29 (s := s) L (j + 1) (by rw [← HQ.out]; exact hq0))
        have HQ0 := Lib.hid hq0
        clear hq0
        go_wp2_with fail
        refine HRM.out.mono ?_
        rintro e w2 hcl
        obtain ⟨he, hk2⟩ := HK.out.call HL1.out hcl
        rw [← HQ.out] at he
        subst he
        have HK2 := Lib.hid hk2
        clear hcl hk2
        go_wp2_with fail
        go_ret
        rw [HE.out, HST.out, if_pos (by rw [← HQ.out]; exact HQ0.out)]
        refine ⟨by first | rfl | (rw [HQ.out]; rfl), HK2.out.at_.up (fun b hb => hb.imp id fun h => ⟨Nat.le_trans HB1.out.size h.1, h.2⟩) (grow_lt HLT.out (Nat.le_trans HB1.out.size HK2.out.only.size)), (Only.of_below HB1.out F).trans HK2.out.only fun _ h => .inl h⟩
    · obtain rfl : j = n := by omega
      have HTK : Hid (L.take j = L) := Lib.hid (by rw [HNL.out, List.take_length])
      have H02 : Hid ((s.cleanGo L).2 = 0) := Lib.hid (by rw [← HTK.out]; exact H0.out)
      have HK3 : Hid (Rk w1 wr F d (s.cleanGo L).1) := Lib.hid (by have h := HK.out; rw [HTK.out] at h; exact h)
      have HSM3 : Hid (Disk.Sm (k + j) (s.cleanGo L).1) := Lib.hid (by have h := HSM.out; rw [HTK.out] at h; exact h)
      by_cases hj0 : j = 0
      · have hL0 : L = [] := List.eq_nil_of_length_eq_zero (by rw [← HNL.out]; exact hj0)
        subst hj0
        have HE2 : Hid (s.clean = (s, 0)) := Lib.hid (by rw [HE.out, if_neg (by rw [H02.out]; simp), if_pos hL0])
        have HK4 : Hid (Rk w1 wr F d s) := Lib.hid (by have h := HK3.out; rw [hL0] at h; exact h)
        clear hL0
        go_wp2_with fail
        go_ret
        rw [HE2.out]
        exact ⟨rfl, HK4.out.at_.up (fun b hb => hb.imp id fun h => ⟨Nat.le_trans HB1.out.size h.1, h.2⟩) (grow_lt HLT.out (Nat.le_trans HB1.out.size HK4.out.only.size)), (Only.of_below HB1.out F).trans HK4.out.only fun _ h => .inl h⟩
      · have hL0 : L ≠ [] := fun e => hj0 (by rw [HNL.out, e]; rfl)
        have HE2 : Hid (s.clean = (s.cleanGo L).1.syncDir) := Lib.hid (by rw [HE.out, if_neg (by rw [H02.out]; simp), if_neg hL0])
        have hjb : ((j : Int) == 0) = false := by rw [beq_eq_false_iff_ne]; omega
        obtain ⟨b1, b2, -⟩ := sm_bounds HSM3.out (by omega)
        have HSD := Lib.hid (refSyncDir_any (w := wr) (Lib.hid HK3.out.at_) b1 b2)
        clear hL0 b1 b2
        go_wp2_with fail
        refine HSD.out.mono ?_
        rintro e w2 hcl
        obtain ⟨he, hk2⟩ := HK3.out.call HL1.out hcl
        subst he
        have HK2 := Lib.hid hk2
        clear hcl hk2
        go_wp2_with fail
        go_ret
        rw [HE2.out]
        exact ⟨rfl, HK2.out.at_.up (fun b hb => hb.imp id fun h => ⟨Nat.le_trans HB1.out.size h.1, h.2⟩) (grow_lt HLT.out (Nat.le_trans HB1.out.size HK2.out.only.size)), (Only.of_below HB1.out F).trans HK2.out.only fun _ h => .inl h⟩
end
end Go.Proofs.YtncpeogkccjmcaaGreatDoor
namespace Go.Proofs.YtncpeogkccjmcaaGreatDoor
open Go.RowKit Go.ChangeShapes Go.WideShapes Go.Deep

section
variable {w W w' : World} {F : Blocks} {d : Nat} {s : Disk.St}
theorem sAppend {k : Nat} (nm : ByteArray) (HA : Hid (RefFA w F d s)) (hsm : Hid (Disk.Sm k s)) (hk : k ≤ 549755813888) (hnm : nm.size ≤ maxLen) (B : Option Addr) (bk cb : Nat) (bs : List UInt8) (S : Blocks) (hbk : Hid (bk = bs.length)) (hB0 : Hid (SliceAt Rep.byte w S B cb bs)) (hS : Hid (∀ b, S b → b < w.heap.size ∧ ¬ F b)) (hbb : bk ≤ 1099511627776) :
    Calls Tryz.prog 46 #[.pointer (some ⟨d, 0, none⟩), .string nm, .slice B bk cb] w (RefCall w F d (s.append nm.data.toList bs)) := by
  obtain ⟨a, b, c, e, f, g, h⟩ := sm_bounds hsm.out hk
  exact refAppend_any nm B bk cb bs S hbk hB0 hS hbb HA (Lib.hid hnm) a b c e g h (Disk.size_le hsm.out.fine)
theorem sSyncDir {k : Nat} (HA : Hid (RefFA w F d s)) (hsm : Hid (Disk.Sm k s)) (hk : k ≤ 549755813888) :
    Calls Tryz.prog 49 #[.pointer (some ⟨d, 0, none⟩)] w (RefCall w F d s.syncDir) := by
  obtain ⟨a, b, c, e, f, g, h⟩ := sm_bounds hsm.out hk
  exact refSyncDir_any HA a b
theorem rc_back {t : Disk.St} (hF : ∀ b, F b → b < w.heap.size) (hb : Below w.heap.size w W) (h1 : RefFA w' (grow F W w') d t) (h2 : Only F W w') : RefFA w' (grow F w w') d t ∧ Only F w w' :=
  ⟨h1.up (fun b hb' => hb'.imp id fun h => ⟨Nat.le_trans hb.size h.1, h.2⟩) (grow_lt hF (Nat.le_trans hb.size h2.size)), (Only.of_below hb F).trans h2 fun _ h => .inl h⟩
set_option linter.unusedSimpArgs false in
set_option maxRecDepth 100000 in
set_option maxHeartbeats 4000000 in
theorem due_any (o : OpP29) (v : Op29V) (S : Blocks) {k : Nat} (HA : Hid (RefFA w F d s)) (hsm : Hid (Disk.Sm k s)) (hk : k ≤ 274877906944) (HO : Hid (OpIs29 w S o v)) (hS : Hid (∀ b, S b → b < w.heap.size ∧ ¬ F b)) (hb1 : o.bn ≤ 2147483648) (hb2 : o.fn ≤ 2147483648) (hb3 : o.kn ≤ 2147483648) :
    Calls Tryz.prog 12 #[.pointer (some ⟨d, 0, none⟩), .agg o.cells] w (RefCall w F d (s.step29 v)) := by
  obtain ⟨r, hr⟩ : ∃ r, r = s.step29 v := ⟨_, rfl⟩
  rw [← hr]
  have HR := Lib.hid hr
  clear hr
  obtain ⟨W, hW⟩ : ∃ W, W = w.alloc (.cells o.cells 70) := ⟨_, rfl⟩
  have hbW : Below w.heap.size w W := by rw [hW]; exact Below.alloc (Below.refl _ _) (Nat.le_refl _) _
  have hbox : W.heap[w.heap.size]? = some (.cells o.cells 70 (0, 0)) := by rw [hW]; exact heap_alloc_new _ _
  have hlt : w.heap.size < W.heap.size := (Array.getElem?_eq_some_iff.1 hbox).1
  have HFL : Hid (∀ b, F b → b < w.heap.size) := Lib.hid (RefFA.lt HA.out)
  have HAW : Hid (RefFA W F d s) := Lib.hid (HA.out.far hbW)
  have HBW := Lib.hid hbW
  have HOW : Hid (OpIs29 W S o v) := Lib.hid (HO.out.same (Same.of_below hbW fun b hb => (hS.out b hb).1))
  have HSW : Hid (∀ b, S b → b < W.heap.size ∧ ¬ F b) := Lib.hid fun b hb => ⟨Nat.lt_trans (hS.out b hb).1 hlt, (hS.out b hb).2⟩
  have HBX : Hid (∀ u, Only F W u → u.heap[w.heap.size]? = some (.cells o.cells 70 (0, 0))) := Lib.hid fun u hu => (hu.block _ hlt fun hf => Nat.lt_irrefl _ (HFL.out _ hf)).trans hbox
  obtain ⟨c0, c1, c2, c3, c4, c5, c6⟩ := seven29 o hbox
  have hnl := HO.out.nl
  have hdl := HO.out.dl
  have hbc := HO.out.b.len
  have hbm := HO.out.b.max
  have hfc := HO.out.f.len
  have hfm := HO.out.f.max
  have hkc := HO.out.k.len
  have hkm := HO.out.k.max
  have HNB := Lib.hid HO.out.bn
  have HNF := Lib.hid HO.out.fn
  have HNK := Lib.hid HO.out.kn
  rw [← HNB.out] at hbc
  rw [← HNF.out] at hfc
  rw [← HNK.out] at hkc
  have HNM := Lib.hid HO.out.name
  have HDS := Lib.hid HO.out.dst
  have HNU := Lib.hid HO.out.num
  have HKI := Lib.hid HO.out.kind
  obtain ⟨K1, K2, K3, K4, K5, K6, K7, K8, K9⟩ := step_kinds s v
  have KH := Lib.hid (And.intro K1 (And.intro K2 (And.intro K3 (And.intro K4 (And.intro K5 (And.intro K6 (And.intro K7 (And.intro K8 K9))))))))
  clear K1 K2 K3 K4 K5 K6 K7 K8 K9
  obtain ⟨kd, hkd⟩ : ∃ kd, kd = o.kind := ⟨_, rfl⟩
  rw [← hkd] at c0
  have HKD : Hid (kd = v.kind) := Lib.hid (hkd.trans HKI.out)
  have HW := Lib.hid hW
  unfold OpP29.cells at HW ⊢
  clear hkd hW hbox hlt hbW
  go_enter Tryz.func12, Tryz.ntmps12
  go_upto_region 1 with fail
  rw [← HW.out]
  obtain ⟨bx, hbx⟩ : ∃ bx, bx = w.heap.size := ⟨_, rfl⟩
  rw [← hbx] at HBX c0 c1 c2 c3 c4 c5 c6 ⊢
  have HBXE := Lib.hid hbx
  clear hbx
  by_cases k1 : kd = 1
  · subst k1
    have HRK : Hid (r = _) := Lib.hid (HR.out.trans (KH.out.1 HKD.out.symm))
    have HCC := Lib.hid (sMake (w := W) o.name HAW hsm (by omega) hnl)
    rw [HNM.out] at HCC
    obtain ⟨m, hm⟩ : ∃ m, m = s.make v.name := ⟨_, rfl⟩
    have HM := Lib.hid hm
    rw [← hm] at HCC
    rw [← HM.out] at HRK
    have HSM2 : Hid (Disk.Sm (k + 1) m.1) := Lib.hid (by rw [hm]; exact hsm.out.act (.make v.name))
    clear hm
    obtain ⟨q, hq⟩ : ∃ q, q = m.2 := ⟨_, rfl⟩
    have HQ := Lib.hid hq
    clear hq
    by_cases hq0 : q = 0
    · have hqb : (q != 0) = false := by rw [hq0]; rfl
      have HRK2 : Hid (r = m.1.append v.name v.b) := Lib.hid (by rw [HRK.out, if_neg (by rw [← HQ.out, hq0]; simp)])
      clear hq0
      go_wp2_with fail
      refine HCC.out.mono ?_
      rintro e w2 hc
      have he := hc.1
      rw [← HQ.out] at he
      subst he
      have HC := Lib.hid hc
      clear hc
      obtain ⟨d0, d1, d2, d3, d4, d5, d6⟩ := seven29 o (HBX.out w2 HC.out.2.2)
      have HAP := Lib.hid (sAppend (w := w2) o.name (Lib.hid HC.out.2.1) HSM2 (by omega) hnl o.bA o.bn o.bc v.b S HNB (Lib.hid (HOW.out.b.keep (fun _ h => h) (HC.out.2.2.same HSW.out))) (Lib.hid fun b hb => ⟨Nat.lt_of_lt_of_le (HSW.out b hb).1 HC.out.2.2.size, fun hg => hg.elim (HSW.out b hb).2 fun hg => by have := (HSW.out b hb).1; have := hg.1; omega⟩) (by omega))
      rw [HNM.out] at HAP
      go_wp2_with fail
      refine HAP.out.mono ?_
      rintro e w3 hc
      have he := hc.1
      subst he
      have HC3 := Lib.hid hc
      clear hc
      go_wp2_with fail
      go_ret
      rw [HRK2.out]
      have hk1 : Rk W w2 F d m.1 := ⟨HC.out.2.1, HC.out.2.2⟩
      have hk2 := hk1.next (fun b hb => Nat.lt_of_lt_of_le (HFL.out b hb) HBW.out.size) HC3.out.2.1 HC3.out.2.2
      obtain ⟨hz1, hz2⟩ := rc_back HFL.out HBW.out hk2.at_ hk2.only
      exact ⟨rfl, hz1, hz2⟩
    · have hqb : (q != 0) = true := bne_iff_ne.2 hq0
      have HRK2 : Hid (r = m) := Lib.hid (by rw [HRK.out, if_pos (by rw [← HQ.out]; exact hq0)])
      clear hq0
      go_wp2_with fail
      refine HCC.out.mono ?_
      rintro e w2 hc
      have he := hc.1
      rw [← HQ.out] at he
      subst he
      have HC := Lib.hid hc
      clear hc
      go_wp2_with fail
      go_ret
      rw [HRK2.out, HQ.out]
      obtain ⟨hz1, hz2⟩ := rc_back HFL.out HBW.out HC.out.2.1 HC.out.2.2
      exact ⟨rfl, hz1, hz2⟩
  have k1b : (kd == 1) = false := beq_eq_false_iff_ne.2 k1
  have KN1 : Hid (v.kind ≠ 1) := Lib.hid (by rw [← HKD.out]; exact k1)
  clear k1
  by_cases k2 : kd = 2
  · subst k2
    have HRK : Hid (r = _) := Lib.hid (HR.out.trans (KH.out.2.1 HKD.out.symm))
    have HCC := Lib.hid (sSync (w := W) o.name HAW hsm (by omega) hnl)
    try rw [HNM.out] at HCC
    try rw [HDS.out] at HCC
    go_wp2_with fail
    refine HCC.out.mono ?_
    rintro e w2 hc
    have he := hc.1
    subst he
    have HC := Lib.hid hc
    clear hc
    go_wp2_with fail
    go_ret
    rw [HRK.out]
    obtain ⟨hz1, hz2⟩ := rc_back HFL.out HBW.out HC.out.2.1 HC.out.2.2
    exact ⟨rfl, hz1, hz2⟩
  have k2b : (kd == 2) = false := beq_eq_false_iff_ne.2 k2
  have KN2 : Hid (v.kind ≠ 2) := Lib.hid (by rw [← HKD.out]; exact k2)
  clear k2
  by_cases k3 : kd = 3
  · subst k3
    have HRK : Hid (r = _) := Lib.hid (HR.out.trans (KH.out.2.2.1 HKD.out.symm))
    have HCC := Lib.hid (sRename (w := W) o.name o.dst HAW hsm (by omega) hnl hdl)
    try rw [HNM.out] at HCC
    try rw [HDS.out] at HCC
    go_wp2_with fail
    refine HCC.out.mono ?_
    rintro e w2 hc
    have he := hc.1
    subst he
    have HC := Lib.hid hc
    clear hc
    go_wp2_with fail
    go_ret
    rw [HRK.out]
    obtain ⟨hz1, hz2⟩ := rc_back HFL.out HBW.out HC.out.2.1 HC.out.2.2
    exact ⟨rfl, hz1, hz2⟩
  have k3b : (kd == 3) = false := beq_eq_false_iff_ne.2 k3
  have KN3 : Hid (v.kind ≠ 3) := Lib.hid (by rw [← HKD.out]; exact k3)
  clear k3
  by_cases k4 : kd = 4
  · subst k4
    have HRK : Hid (r = _) := Lib.hid (HR.out.trans (KH.out.2.2.2.1 HKD.out.symm))
    have HCC := Lib.hid (sSyncDir (w := W) HAW hsm (by omega))
    try rw [HNM.out] at HCC
    try rw [HDS.out] at HCC
    go_wp2_with fail
    refine HCC.out.mono ?_
    rintro e w2 hc
    have he := hc.1
    subst he
    have HC := Lib.hid hc
    clear hc
    go_wp2_with fail
    go_ret
    rw [HRK.out]
    obtain ⟨hz1, hz2⟩ := rc_back HFL.out HBW.out HC.out.2.1 HC.out.2.2
    exact ⟨rfl, hz1, hz2⟩
  have k4b : (kd == 4) = false := beq_eq_false_iff_ne.2 k4
  have KN4 : Hid (v.kind ≠ 4) := Lib.hid (by rw [← HKD.out]; exact k4)
  clear k4
  by_cases k5 : kd = 5
  · subst k5
    have HRK : Hid (r = _) := Lib.hid (HR.out.trans (KH.out.2.2.2.2.1 HKD.out.symm))
    have HCC := Lib.hid (refPlan_any (w := W) o.fA o.fn o.fc v.faults S HAW HNF (Lib.hid HOW.out.f) HSW (by omega))
    try rw [HNM.out] at HCC
    try rw [HDS.out] at HCC
    go_wp2_with fail
    refine HCC.out.mono ?_
    rintro e w2 hc
    have he := hc.1
    subst he
    have HC := Lib.hid hc
    clear hc
    go_wp2_with fail
    go_ret
    rw [HRK.out]
    obtain ⟨hz1, hz2⟩ := rc_back HFL.out HBW.out HC.out.2.1 HC.out.2.2
    exact ⟨rfl, hz1, hz2⟩
  have k5b : (kd == 5) = false := beq_eq_false_iff_ne.2 k5
  have KN5 : Hid (v.kind ≠ 5) := Lib.hid (by rw [← HKD.out]; exact k5)
  clear k5
  by_cases k6 : kd = 6
  · subst k6
    have HRK : Hid (r = _) := Lib.hid (HR.out.trans (KH.out.2.2.2.2.2.1 HKD.out.symm))
    have HCC := Lib.hid (refOff_any (w := W) HAW)
    go_wp2_with fail
    refine HCC.out.mono ?_
    rintro e w2 ⟨rfl, hc⟩
    have HC := Lib.hid hc
    clear hc
    go_wp2_with fail
    go_ret
    rw [HRK.out]
    obtain ⟨hz1, hz2⟩ := rc_back HFL.out HBW.out HC.out.at_ HC.out.only
    exact ⟨rfl, hz1, hz2⟩
  have k6b : (kd == 6) = false := beq_eq_false_iff_ne.2 k6
  have KN6 : Hid (v.kind ≠ 6) := Lib.hid (by rw [← HKD.out]; exact k6)
  clear k6
  by_cases k7 : kd = 7
  · subst k7
    have HRK : Hid (r = _) := Lib.hid (HR.out.trans (KH.out.2.2.2.2.2.2.1 HKD.out.symm))
    have HCC := Lib.hid (refStart_any (w := W) o.num o.kA o.kn o.kc v.keep S HAW (Lib.hid hsm.out.fine) HNK (Lib.hid HOW.out.k) HSW (by omega) (by have := hsm.out.small.2.2.2.2; omega))
    rw [HNU.out] at HCC
    rw [HNU.out] at c5
    go_wp2_with fail
    refine HCC.out.mono ?_
    rintro e w2 ⟨rfl, hc1, hc2⟩
    have HC1 := Lib.hid hc1
    have HC2 := Lib.hid hc2
    clear hc1 hc2
    go_wp2_with fail
    go_ret
    rw [HRK.out]
    obtain ⟨hz1, hz2⟩ := rc_back HFL.out HBW.out HC1.out HC2.out
    exact ⟨rfl, hz1, hz2⟩
  have k7b : (kd == 7) = false := beq_eq_false_iff_ne.2 k7
  have KN7 : Hid (v.kind ≠ 7) := Lib.hid (by rw [← HKD.out]; exact k7)
  clear k7
  by_cases k8 : kd = 8
  · subst k8
    have HRK : Hid (r = _) := Lib.hid (HR.out.trans (KH.out.2.2.2.2.2.2.2.1 HKD.out.symm))
    have HCC := Lib.hid (refClean_any (w := W) HAW hsm hk)
    try rw [HNM.out] at HCC
    try rw [HDS.out] at HCC
    go_wp2_with fail
    refine HCC.out.mono ?_
    rintro e w2 hc
    have he := hc.1
    subst he
    have HC := Lib.hid hc
    clear hc
    go_wp2_with fail
    go_ret
    rw [HRK.out]
    obtain ⟨hz1, hz2⟩ := rc_back HFL.out HBW.out HC.out.2.1 HC.out.2.2
    exact ⟨rfl, hz1, hz2⟩
  have k8b : (kd == 8) = false := beq_eq_false_iff_ne.2 k8
  have KN8 : Hid (v.kind ≠ 8) := Lib.hid (by rw [← HKD.out]; exact k8)
  clear k8
  have HRK : Hid (r = (s, 0)) := Lib.hid (HR.out.trans (KH.out.2.2.2.2.2.2.2.2 KN1.out KN2.out KN3.out KN4.out KN5.out KN6.out KN7.out KN8.out))
  go_wp2_with fail
  go_ret
  rw [HRK.out]
  obtain ⟨hz1, hz2⟩ := rc_back HFL.out HBW.out (Rk.start HAW.out).at_ (Only.refl F W)
  exact ⟨rfl, hz1, hz2⟩
end
end Go.Proofs.YtncpeogkccjmcaaGreatDoor
