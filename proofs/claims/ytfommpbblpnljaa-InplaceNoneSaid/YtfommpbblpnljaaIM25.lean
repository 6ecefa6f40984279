/- Texts that lead to the claim, one behind the other: The iterator over a disk's temporary names: temps.stale and its closure. Conditions: none. -/
import Derived.Test.YtfommpbblpnljaaIM8
import Derived.Test.YtfommpbblpnljaaIM24
import Derived.RangeFuncNested
import Derived.RangeFuncBound
import Derived.RangeFuncCalls
import Derived.RangeFuncLeaves
import Derived.Shelf.RegionOpen
import Derived.OwnWalkIn
import Derived.TacticsInMore
import Derived.LoopNIn
import Derived.LoopIn
import Derived.Sort.LoopGhostIn
namespace Go.Proofs.Ytfommpbblpnljaa
open Go.RowKit Go.ChangeShapes Go.WideShapes Go.Deep Go.Shelf
attribute [local go_sem] Oper.semAt_some

/-- A temporary name in memory's reach. -/
abbrev TmpNm := { x : Disk.Nm // Disk.isTmp x = true ∧ x.length ≤ maxLen }
theorem stale_maker (p : Option Addr) (w : World) : Calls Try.prog 60 #[.pointer p] w fun e w' => e = .returned (.func (.func 70) #[] #[.pointer (some ⟨w.heap.size, 0, none⟩)]) ∧ w' = w.alloc (.cells #[.pointer p] 22) := by
  go_enter Try.func60, Try.ntmps60
  go_wp2_with fail
  go_ret
  exact ⟨rfl, rfl⟩
/-- The row of names that the iterator reads between the rounds. -/
def RowK (Prot : World → Nat → Prop) (A : Option Addr) (L : List Disk.Nm) (wr : World) : Prop :=
  ∃ g cur, A = some ⟨g, 0, none⟩ ∧ wr.heap[g]? = some (.cells cur 9 (0, 0)) ∧ (∀ i (h : i < L.length), cur[i]? = some (.string (ba L[i])) ∧ L[i].length ≤ maxLen) ∧ Prot wr g
theorem RowK.of_own {Prot : World → Nat → Prop} {W w1 : World} {A : Option Addr} {n c : Nat} {L : List Disk.Nm} (h : Own Rep.str 9 w1 W.heap.size nob (.slice A n c) (L.map ba)) (h0 : L ≠ []) (hp : ∀ b cs, W.heap.size ≤ b → w1.heap[b]? = some (.cells cs 9 (0, 0)) → Prot w1 b) : RowK Prot A L w1 := by
  have hsz : ∀ i (hi : i < L.length), L[i].length ≤ maxLen := fun i hi => by
    obtain ⟨xs, hx, -, -, hr⟩ := h
    have := (hr i (by simpa using hi)).2
    rw [List.getElem_map, ba_size] at this
    exact this
  have hown := own_strs h
  rcases hown.2 with ⟨hnil, hz⟩ | ⟨g, cap, cur, he, hbase, hb, e1, e2, e3, e4⟩
  · exact absurd (List.eq_nil_of_length_eq_zero (by simpa using hz)) h0
  · simp only [Value.slice.injEq] at he
    obtain ⟨rfl, -, -⟩ := he
    refine ⟨g, cur, rfl, hb, fun i hi => ⟨?_, hsz i hi⟩, hp g cur hbase hb⟩
    rw [Nat.mul_one] at e4
    have h1 : (((L.map ba).map Value.string))[i]? = some (.string (ba L[i])) := by simp [hi]
    rw [← e4, List.getElem?_take, if_pos (by simpa using hi), Array.getElem?_toList] at h1
    exact h1
theorem filt_snoc {L : List Disk.Nm} {j : Nat} (hj : j < L.length) : (L.take (j + 1)).filter Disk.isTmp = (L.take j).filter Disk.isTmp ++ (if Disk.isTmp L[j] then [L[j]] else []) := by
  rw [List.take_succ_eq_append_getElem hj, List.filter_append]
  congr 1
  cases h : Disk.isTmp L[j] <;> simp [h]
theorem filt_yes {L : List Disk.Nm} {j : Nat} (hj : j < L.length) (ht : Disk.isTmp L[j] = true) : (L.take (j + 1)).filter Disk.isTmp = (L.take j).filter Disk.isTmp ++ [L[j]] := by rw [filt_snoc hj, if_pos ht]
theorem filt_pre (L : List Disk.Nm) (j : Nat) : (L.take j).filter Disk.isTmp <+: L.filter Disk.isTmp := by
  conv => rhs; rw [← List.take_append_drop j L, List.filter_append]
  exact List.prefix_append _ _
theorem filt_lt {L : List Disk.Nm} {j : Nat} (hj : j < L.length) (ht : Disk.isTmp L[j] = true) : ((L.take j).filter Disk.isTmp).length < (L.filter Disk.isTmp).length := by
  have h := (filt_pre L (j + 1)).length_le
  rw [filt_snoc hj, if_pos ht, List.length_append] at h
  simp only [List.length_cons, List.length_nil] at h
  omega
set_option maxRecDepth 100000 in
set_option maxHeartbeats 4000000 in
theorem stale_stops (k : Nat) (_hk : 3 ≤ k) (d Bn : Nat) (s : Disk.St) (F : Blocks) (w : World) (HA : Hid (DiskAt w F d s)) (hf : Hid (Disk.Fine s)) (hBn : w.cell? ⟨Bn, 0, none⟩ = some (.pointer (some ⟨d, 0, none⟩))) (hlt : Bn < w.heap.size)
    (Prot : World → Nat → Prop) (hnew : Hid (∀ W W' b cs, Below w.heap.size w W → Below W.heap.size W W' → W.heap.size ≤ b → W'.heap[b]? = some (.cells cs 9 (0, 0)) → Prot W' b)) :
    SeqStopsK Fence.wide k Try.prog 70 #[.pointer (some ⟨Bn, 0, none⟩)] (fun x : TmpNm => #[Value.string (ba x.1)]) (fun W W' => ∀ b, Prot W b → Prot W' b ∧ W'.heap[b]? = W.heap[b]?) (fun xs => xs.map (fun x => x.1) = s.stale) (fun pre => pre.map (fun x => x.1) <+: s.stale) s.stale.length w := fun l J Jx W hW hJ hJx hY h0 => by
  have HN := Lib.hid (diskNames_any (w := W) (Lib.hid (by
    obtain ⟨loc, blk, bn, bo, rowv, pA, pC, hB⟩ := HA.out
    exact (hB.far hW).at_)) hf)
  have c0 : W.cell? ⟨Bn, 0, none⟩ = some (.pointer (some ⟨d, 0, none⟩)) := (hW.cell (p := ⟨Bn, 0, none⟩) hlt).trans hBn
  have HW := Lib.hid hW
  have HJ := Lib.hid hJ
  have HY := Lib.hid hY
  have H0 := Lib.hid h0
  obtain ⟨L, hL⟩ : ∃ L, L = s.names := ⟨_, rfl⟩
  have hst : s.stale = L.filter Disk.isTmp := by rw [hL]; rfl
  have HST := Lib.hid hst
  rw [← hL] at HN
  clear hW hJ hJx hY h0 HA hBn hL hst
  refine callsIn_of_wp Try.func70 rfl trivial ?_ rfl
  simp only [Try.ntmps70, List.size_toArray, List.length_cons, List.length_nil, Nat.reduceAdd, Nat.reduceSub, Array.replicate_succ, Array.replicate_zero, List.push_toArray, List.append_toArray, List.nil_append, List.cons_append]
  gi_wp2_with (refine ⟨trivial, fun _ => by omega, ?_⟩; gi_at_call 26; refine (callsIn_wide.2 HN.out).mono ?_; rintro e w1 ⟨A, n, c, rfl, hn, hnc, hcm, hown, hb⟩; have HB1 := Lib.hid hb; have HO1 := Lib.hid hown; clear hb hown)
  by_cases hn0 : n = 0
  · subst hn0
    have hL0 : L = [] := List.eq_nil_of_length_eq_zero hn.out.symm
    have hJ1 : J [] w1 := HJ.out [] W w1 none H0.out ⟨HB1.out.os, HB1.out.tape, HB1.out.output, HB1.out.size, fun k hk _ => HB1.out.block k hk⟩ (fun r e => by cases e)
    have HJ1 := Lib.hid hJ1
    clear hJ1
    gi_loopg [4, 8] 0 (fun q v4 iv wr => iv = .int .i64 0 ∧ Hid (J [] wr))
    case atStart => exact ⟨rfl, HJ1⟩
    case round =>
      obtain ⟨rfl, HJP⟩ := hrel
      gi_wp2
      go_end0
      exact ⟨⟨_, rfl⟩, .inl ⟨[], by rw [HST.out, hL0]; rfl, HJP.out⟩⟩
  have hL0 : L ≠ [] := fun e => hn0 (by rw [hn.out, e]; rfl)
  have hR1 := Lib.hid (RowK.of_own (Prot := Prot) HO1.out hL0 fun b cs hb hc => hnew.out W w1 b cs HW.out HB1.out hb hc)
  have hJ1 : Hid (J [] w1) := Lib.hid (HJ.out [] W w1 none H0.out ⟨HB1.out.os, HB1.out.tape, HB1.out.output, HB1.out.size, fun k hk _ => HB1.out.block k hk⟩ (fun r e => by cases e))
  have hA0 := hL0
  gi_loopg [4, 8] n (fun q v4 iv wr => ∃ (j : Nat) (pre : List TmpNm), q = n - j ∧ j ≤ n ∧ iv = .int .i64 j ∧ Hid (pre.map (fun x => x.1) = (L.take j).filter Disk.isTmp) ∧ Hid (J pre wr) ∧ Hid (RowK Prot A L wr))
  case atStart => exact ⟨0, [], by omega, by omega, rfl, Lib.hid rfl, hJ1, hR1⟩
  case round =>
    obtain ⟨j, pre, rfl, hj, rfl, HPR, HJP, HR⟩ := hrel
    by_cases hjn : j < n
    · have hjl : j < L.length := by rw [← hn.out]; exact hjn
      obtain ⟨g, cur, rfl, hg, hcur, hpr⟩ := HR.out
      obtain ⟨hcj, hlj⟩ := hcur j hjl
      have hcell : wr.cell? ⟨g, j, none⟩ = some (.string (ba L[j])) := (cell_of_row wr g j cur _ (0, 0) hg).trans hcj
      obtain ⟨nm, hnm⟩ : ∃ nm : ByteArray, nm = ba L[j] := ⟨_, rfl⟩
      rw [← hnm] at hcell
      obtain ⟨tb, htb⟩ : ∃ tb, Disk.isTmp L[j] = tb := ⟨_, rfl⟩
      have HIS : Hid (∀ W, Calls Try.prog 21 #[.string nm] W fun e w' => e = .returned (.bool tb) ∧ W = w') := Lib.hid fun W => by have h := is_any nm W; rw [show nm.data.toList = L[j] by rw [hnm]; rfl, htb] at h; exact h
      have hfs := filt_snoc (L := L) hjl
      have HFS := Lib.hid hfs
      have HTB := Lib.hid htb
      have HNM := Lib.hid hnm
      have HLJ := Lib.hid hlj
      have HG := Lib.hid hg
      have HCUR := Lib.hid hcur
      have HPROT := Lib.hid hpr
      clear hfs htb hnm hlj hg hcur hpr hcj hA0
      cases tb
      case false =>
        gi_wp2_with (refine ⟨trivial, fun _ => by omega, ?_⟩; gi_at_call 21; refine (callsIn_wide.2 (HIS.out _)).mono ?_; rintro e w' ⟨rfl, rfl⟩)
        refine ⟨fun _ h => (by cases h), ?_⟩
        gi_wp2
        gi_roundg (n - (j + 1))
        case measure => omega
        case rel => exact ⟨j + 1, pre, rfl, by omega, by go_num, Lib.hid (by rw [HFS.out, HTB.out, HPR.out]; simp), HJP, HR⟩
      case true =>
        have HFY := Lib.hid (filt_yes hjl HTB.out)
        have hpl : pre.length < s.stale.length := by
          have h1 := filt_lt hjl HTB.out
          have h2 := congrArg List.length HPR.out
          rw [List.length_map] at h2
          rw [HST.out]; omega
        obtain ⟨fn, tmps, assign, body, hy, hR⟩ := HY.out pre ⟨L[j], HTB.out, HLJ.out⟩ wr HJP.out hpl
        dsimp only at hy
        rw [← HNM.out] at hy
        have HRD := Lib.hid hR
        clear hR hpl
        gi_wp2_with (first
          | (refine ⟨trivial, fun _ => by omega, ?_⟩; gi_at_call 21; refine (callsIn_wide.2 (HIS.out _)).mono ?_; rintro e w' ⟨rfl, rfl⟩))
        refine ⟨fun _ => by omega, HRD.out.mono ?_⟩
        rintro e W3 (⟨rfl, hJ3, hk3⟩ | ⟨rfl, hJx3⟩)
        · have HJ3 := Lib.hid hJ3
          have hp3 := hk3 g HPROT.out
          have HR3 : Hid (RowK Prot (some ⟨g, 0, none⟩) L W3) := Lib.hid ⟨g, cur, rfl, hp3.2.trans HG.out, HCUR.out, hp3.1⟩
          clear hJ3 hk3 hp3
          gi_wp2
          gi_roundg (n - (j + 1))
          case measure => omega
          case rel => exact ⟨j + 1, pre ++ [⟨L[j], HTB.out, HLJ.out⟩], rfl, by omega, by go_num, Lib.hid (by rw [HFY.out, List.map_append, HPR.out]; rfl), HJ3, HR3⟩
        · have HJX := Lib.hid hJx3
          clear hJx3
          gi_wp2
          refine bodyPost_ret (results_none rfl _ _ _) rfl ?_
          refine ⟨⟨_, rfl⟩, .inr ⟨pre ++ [⟨L[j], HTB.out, HLJ.out⟩], ?_, HJX.out⟩⟩
          rw [HST.out, List.map_append, HPR.out]
          have := filt_pre L (j + 1)
          rw [HFY.out] at this
          exact this
    · obtain rfl : j = n := by omega
      gi_wp2
      go_end0
      exact ⟨⟨_, rfl⟩, .inl ⟨pre, by rw [HPR.out, HST.out, hn.out, List.take_length], HJP.out⟩⟩
end Go.Proofs.Ytfommpbblpnljaa
