/- A file made, appended to, synced, renamed: the walk of (galleylaw03.Swap).swapped. Condition: there are not more than 8 * 10^12 parts, each below 2^40. -/
import Derived.Test.YtignnohjggjkoaaDiskDk
import Derived.Test.YtignnohjggjkoaaDiskAppend
import Derived.Test.YtignnohjggjkoaaDiskMake
import Derived.Test.YtignnohjggjkoaaDiskSync
import Derived.Test.YtignnohjggjkoaaDiskRename
import Derived.Test.YtignnohjggjkoaaDiskSyncDir
namespace Go.Proofs.Ytignnohjggjkoaa
open Go.RowKit Go.ChangeShapes Go.WideShapes Go.Deep

section
variable {w : World} {F : Blocks} {d : Nat} {s : Disk.St}
theorem bne0 {q : Int} (h : ¬ q = 0) : (q != 0) = true := by simpa using h
theorem beq0 {q : Int} (h : ¬ q = 0) : (q == 0) = false := by simpa using h
set_option maxRecDepth 100000 in
set_option maxHeartbeats 4000000 in
theorem swapped_any (ps : List (List UInt8)) (last : Bool) (P OA KA : Option Addr) (n cp on oc kn kc : Nat) (at_ dir : Int) (S : Blocks) (hn : Hid (n = ps.length)) (hp : Hid (SliceAt Rep.byte.slice w S P cp ps)) (hS : Hid (∀ b, S b → b < w.heap.size ∧ ¬ F b)) (hnb : n ≤ 8000000000000)
    (hpb : Hid (∀ p ∈ ps, p.length ≤ 1099511627776)) (HA : Hid (DiskAt w F d s)) (hf : Hid (Disk.Fine s)) (hc : Hid (Disk.Cnt 0 0 0 s)) :
    Calls Try.prog 11 #[.agg #[.slice OA on oc, .slice P n cp, .int .i64 at_, .bool last, .int .i64 dir, .slice KA kn kc], .pointer (some ⟨d, 0, none⟩)] w fun e w' =>
      e = .returned (.bool (s.swapped ps last).2) ∧ Dk w w' F d (s.swapped ps last).1 := by
  have hnc : n ≤ cp := by rw [hn.out]; exact hp.out.len
  have hcm := hp.out.max
  obtain ⟨W, hW⟩ : ∃ W, W = w.alloc (.cells #[.slice OA on oc, .slice P n cp, .int .i64 at_, .bool last, .int .i64 dir, .slice KA kn kc] 26) := ⟨_, rfl⟩
  have hltF := HA.out.lt
  have hbW : Below w.heap.size w W := by rw [hW]; exact Below.alloc (Below.refl _ _) (Nat.le_refl _) _
  have hFW : Hid (∀ b, F b → b < W.heap.size) := Lib.hid fun b hb => Nat.lt_of_lt_of_le (hltF b hb) hbW.size
  have hbox : W.heap[w.heap.size]? = some (.cells #[.slice OA on oc, .slice P n cp, .int .i64 at_, .bool last, .int .i64 dir, .slice KA kn kc] 26 (0, 0)) := by rw [hW]; exact heap_alloc_new _ _
  have hbx : Hid (∀ wr, Only F W wr → wr.heap[w.heap.size]? = some (.cells #[.slice OA on oc, .slice P n cp, .int .i64 at_, .bool last, .int .i64 dir, .slice KA kn kc] 26 (0, 0))) := Lib.hid fun wr ho => (ho.block _ (Array.getElem?_eq_some_iff.1 hbox).1 fun h => absurd (hltF _ h) (Nat.lt_irrefl _)).trans hbox
  have hSW : Hid (∀ b, S b → b < W.heap.size ∧ ¬ F b) := Lib.hid fun b hb => ⟨Nat.lt_of_lt_of_le (hS.out b hb).1 hbW.size, (hS.out b hb).2⟩
  have hpW : Hid (SliceAt Rep.byte.slice W S P cp ps) := Lib.hid (hp.out.keep (fun _ h => h) (Same.of_below hbW fun b hb => (hS.out b hb).1))
  have D0 : Hid (Dk W W F d s) := Lib.hid (Dk.start (HA.out.far hbW))
  have hback : Hid (∀ w' t, Dk W w' F d t → Dk w w' F d t) := Lib.hid fun w' t h => by subst hW; exact h.back hltF
  clear hltF hbW hbox
  obtain ⟨q1, hq1⟩ : ∃ q, q = (s.make Disk.nN).2 := ⟨_, rfl⟩
  have HQ1 := Lib.hid hq1
  go_enter Try.func11, Try.ntmps11
  go_wp2_with fail
  rw [← hW]
  clear hW
  refine (make_any ⟨#[110, 101, 119]⟩ (by decide) (Lib.hid D0.out.at_) hf (Lib.hid (hc.out.small (k := 1099511627776) (by omega) (by omega) (by omega))) (by omega)).mono ?_
  rintro e w1 hcall
  obtain ⟨he, hd1⟩ := D0.out.call hFW.out hcall
  have he2 : e = .returned (.int .i64 q1) := he.trans (by rw [hq1]; rfl)
  subst he2
  have D1 : Hid (Dk W w1 F d (s.make Disk.nN).1) := Lib.hid hd1
  clear hcall he hd1 hq1
  by_cases h1 : q1 = 0
  · subst h1
    have HE : Hid (s.swapped ps last = if ((s.make Disk.nN).1.swapGo ps).2 = true then ((s.make Disk.nN).1.swapGo ps).1.swapEnd last else ((s.make Disk.nN).1.swapGo ps)) := Lib.hid (by unfold Disk.St.swapped; rw [if_pos HQ1.out.symm])
    have HF1 : Hid (Disk.Fine (s.make Disk.nN).1) := Lib.hid (Disk.fine_act hf.out (.make Disk.nN))
    have HC1 : Hid (Disk.Cnt 1 1 1 (s.make Disk.nN).1) := Lib.hid (Disk.cnt_make hc.out Disk.nN)
    obtain ⟨s1, hs1⟩ : ∃ s1, s1 = (s.make Disk.nN).1 := ⟨_, rfl⟩
    rw [← hs1] at D1 HE HF1 HC1
    clear hs1 HQ1
    go_wp2_with fail
    go_loopg [5] n (fun q i wr => ∃ (j : Nat) (t : Disk.St), q = n - j ∧ j ≤ n ∧ i = .int .i64 j ∧ Hid (Dk W wr F d t) ∧ Hid (Disk.Fine t) ∧ Hid (Disk.Cnt (1 + j) (1 + j) 1 t) ∧ Hid (s1.swapGo ps = t.swapGo (ps.drop j)))
    case atStart => exact ⟨0, s1, rfl, by omega, rfl, D1, HF1, HC1, Lib.hid rfl⟩
    case round =>
      obtain ⟨j, t, rfl, hj, rfl, DT, HFT, HCT, HG⟩ := hrel
      have hb1 := hbx.out wr DT.out.only
      have k1 : wr.cell? ⟨w.heap.size, 1, none⟩ = some (.slice P n cp) := (cell_of_row _ _ 1 _ _ (0, 0) hb1).trans rfl
      have k3 : wr.cell? ⟨w.heap.size, 3, none⟩ = some (.bool last) := (cell_of_row _ _ 3 _ _ (0, 0) hb1).trans rfl
      clear hb1
      by_cases hjn : j < n
      · have hjl : j < ps.length := by rw [← hn.out]; exact hjn
        obtain ⟨g, o, cs, rfl, hg, hcs, B, cb, rfl, hB⟩ := hpW.out.at_ (i := j) hjl
        obtain ⟨m, hm⟩ : ∃ m, m = (ps[j]).length := ⟨_, rfl⟩
        rw [← hm] at hcs
        have kp := (hcs.keep hg (DT.out.same hSW.out)).one
        rw [show Rep.byte.slice.n = 1 from rfl, Nat.mul_one] at kp
        have hmb : m ≤ 1099511627776 := by rw [hm]; exact hpb.out _ (List.getElem_mem hjl)
        have HM := Lib.hid hm
        have HB := Lib.hid (hB.keep (S' := S) (fun _ h => h) (DT.out.same hSW.out))
        obtain ⟨q2, hq2⟩ : ∃ q, q = (t.append Disk.nN ps[j]).2 := ⟨_, rfl⟩
        have HQ2 := Lib.hid hq2
        have HGS : Hid (s1.swapGo ps = if q2 = 0 then (t.append Disk.nN ps[j]).1.swapGo (ps.drop (j + 1)) else ((t.append Disk.nN ps[j]).1, false)) := Lib.hid (by
          rw [HG.out, List.drop_eq_getElem_cons hjl, Disk.St.swapGo, ← hq2])
        clear hm hcs hB hg hq2
        go_wp2_with fail
        refine (append_any ⟨#[110, 101, 119]⟩ (by decide) B m cb ps[j] S HM HB (Lib.hid (DT.out.apart hSW.out)) hmb (Lib.hid DT.out.at_) HFT (Lib.hid (HCT.out.small (k := 1099511627776) (by omega) (by omega) (by omega))) (by omega)).mono ?_
        rintro e w2 hcall
        obtain ⟨he, hd2⟩ := DT.out.call hFW.out hcall
        have he2 : e = .returned (.int .i64 q2) := he.trans (by rw [HQ2.out]; rfl)
        subst he2
        have D2 : Hid (Dk W w2 F d (t.append Disk.nN ps[j]).1) := Lib.hid hd2
        clear hcall he hd2
        by_cases h2 : q2 = 0
        · subst h2
          go_wp2_with fail
          go_roundg (n - (j + 1))
          case measure => omega
          case rel => exact ⟨j + 1, _, rfl, by omega, by go_num, D2, Lib.hid (Disk.fine_act HFT.out (.append Disk.nN ps[j])), Lib.hid ((Disk.cnt_append HCT.out Disk.nN ps[j]).mono (by omega) (by omega) (by omega)), Lib.hid (HGS.out.trans (by simp))⟩
        · have e2 := bne0 h2
          have HR : Hid (s.swapped ps last = ((t.append Disk.nN ps[j]).1, false)) := Lib.hid (by rw [HE.out, HGS.out, if_neg h2, if_neg (by simp)])
          clear HQ2 h2
          go_wp2_with fail
          go_ret
          exact ⟨by rw [HR.out]; rfl, by rw [HR.out]; exact hback.out _ _ D2.out⟩
      · obtain rfl : j = n := by omega
        have HGE : Hid (s.swapped ps last = t.swapEnd last) := Lib.hid (by
          have h := HG.out
          rw [hn.out, List.drop_length] at h
          rw [HE.out, h]
          rfl)
        clear HG HE hjn hj
        obtain ⟨q2, hq2⟩ : ∃ q, q = (t.sync Disk.nN).2 := ⟨_, rfl⟩
        have HQ2 := Lib.hid hq2
        clear hq2
        go_wp2_with fail
        refine (sync_any ⟨#[110, 101, 119]⟩ (by decide) (Lib.hid DT.out.at_) HFT (Lib.hid (HCT.out.small (k := 1099511627776) (by omega) (by omega) (by omega))) (by omega)).mono ?_
        rintro e w2 hcall
        obtain ⟨he, hd2⟩ := DT.out.call hFW.out hcall
        have he2 : e = .returned (.int .i64 q2) := he.trans (by rw [HQ2.out]; rfl)
        subst he2
        have D2 : Hid (Dk W w2 F d (t.sync Disk.nN).1) := Lib.hid hd2
        have k3 : w2.cell? ⟨w.heap.size, 3, none⟩ = some (.bool last) := (cell_of_row _ _ 3 _ _ (0, 0) (hbx.out w2 hd2.only)).trans rfl
        clear hcall he hd2
        by_cases h2 : q2 = 0
        · subst h2
          have HF2 := Lib.hid (Disk.fine_act HFT.out (.sync Disk.nN))
          have HC2 := Lib.hid (Disk.cnt_sync HCT.out Disk.nN)
          obtain ⟨q3, hq3⟩ : ∃ q, q = ((t.sync Disk.nN).1.rename Disk.nN Disk.nF).2 := ⟨_, rfl⟩
          have HQ3 := Lib.hid hq3
          clear hq3
          go_wp2_with fail
          refine (rename_any ⟨#[110, 101, 119]⟩ ⟨#[102, 105, 108, 101]⟩ (by decide) (by decide) (Lib.hid D2.out.at_) HF2 (Lib.hid (HC2.out.small (k := 1099511627776) (by omega) (by omega) (by omega))) (by omega)).mono ?_
          rintro e w3 hcall
          obtain ⟨he, hd3⟩ := D2.out.call hFW.out hcall
          have he2 : e = .returned (.int .i64 q3) := he.trans (by rw [HQ3.out]; rfl)
          subst he2
          have D3 : Hid (Dk W w3 F d ((t.sync Disk.nN).1.rename Disk.nN Disk.nF).1) := Lib.hid hd3
          have k3 : w3.cell? ⟨w.heap.size, 3, none⟩ = some (.bool last) := (cell_of_row _ _ 3 _ _ (0, 0) (hbx.out w3 hd3.only)).trans rfl
          clear hcall he hd3
          by_cases h3 : q3 = 0
          · subst h3
            have HF3 := Lib.hid (Disk.fine_act HF2.out (.rename Disk.nN Disk.nF))
            have HC3 := Lib.hid (Disk.cnt_rename HC2.out Disk.nN Disk.nF)
            cases last with
            | false =>
              have HR : Hid (s.swapped ps false = (((t.sync Disk.nN).1.rename Disk.nN Disk.nF).1, true)) := Lib.hid (by rw [HGE.out]; unfold Disk.St.swapEnd; rw [if_pos HQ2.out.symm, if_pos HQ3.out.symm, if_neg (by decide)])
              go_wp2_with fail
              go_ret
              exact ⟨by rw [HR.out]; rfl, by rw [HR.out]; exact hback.out _ _ D3.out⟩
            | true =>
              obtain ⟨q4, hq4⟩ : ∃ q, q = (((t.sync Disk.nN).1.rename Disk.nN Disk.nF).1.syncDir).2 := ⟨_, rfl⟩
              have HQ4 := Lib.hid hq4
              clear hq4
              have HR : Hid (s.swapped ps true = (((t.sync Disk.nN).1.rename Disk.nN Disk.nF).1.syncDir.1, decide (q4 = 0))) := Lib.hid (by rw [HGE.out]; unfold Disk.St.swapEnd; rw [if_pos HQ2.out.symm, if_pos HQ3.out.symm, if_pos rfl, HQ4.out])
              go_wp2_with fail
              refine (syncDir_any (Lib.hid D3.out.at_) HF3 (Lib.hid (HC3.out.small (k := 1099511627776) (by omega) (by omega) (by omega))) (by omega)).mono ?_
              rintro e w4 hcall
              obtain ⟨he, hd4⟩ := D3.out.call hFW.out hcall
              have he2 : e = .returned (.int .i64 q4) := he.trans (by rw [HQ4.out])
              subst he2
              have D4 := Lib.hid hd4
              clear hcall he hd4
              by_cases h4 : q4 = 0
              · subst h4
                go_wp2_with fail
                go_ret
                exact ⟨by rw [HR.out]; rfl, by rw [HR.out]; exact hback.out _ _ D4.out⟩
              · have e4 := beq0 h4
                have HN := Lib.hid h4
                clear h4
                go_wp2_with fail
                go_ret
                exact ⟨by rw [HR.out, decide_eq_false HN.out]; rfl, by rw [HR.out]; exact hback.out _ _ D4.out⟩
          · have e3 := beq0 h3
            have HR : Hid (s.swapped ps last = (((t.sync Disk.nN).1.rename Disk.nN Disk.nF).1, false)) := Lib.hid (by rw [HGE.out]; unfold Disk.St.swapEnd; rw [if_pos HQ2.out.symm, if_neg (by rw [← HQ3.out]; exact h3)])
            clear h3
            go_wp2_with fail
            go_ret
            exact ⟨by rw [HR.out]; rfl, by rw [HR.out]; exact hback.out _ _ D3.out⟩
        · have e2 := beq0 h2
          have HR : Hid (s.swapped ps last = ((t.sync Disk.nN).1, false)) := Lib.hid (by rw [HGE.out]; unfold Disk.St.swapEnd; rw [if_neg (by rw [← HQ2.out]; exact h2)])
          clear h2
          go_wp2_with fail
          go_ret
          exact ⟨by rw [HR.out]; rfl, by rw [HR.out]; exact hback.out _ _ D2.out⟩
  · have e1 := bne0 h1
    have HR : Hid (s.swapped ps last = ((s.make Disk.nN).1, false)) := Lib.hid (by unfold Disk.St.swapped; rw [if_neg (by rw [← HQ1.out]; exact h1)])
    clear h1
    go_wp2_with fail
    go_ret
    exact ⟨by rw [HR.out]; rfl, by rw [HR.out]; exact hback.out _ _ D1.out⟩
end
end Go.Proofs.Ytignnohjggjkoaa
