/- Texts that lead to the claim, one behind the other: Is a list a tree; how many groups it has: the walks of syntax.Shaped and Groups. No conditions. -/
import Derived.Test.YtnpideapdjomgaaDoorRA19
import Derived.Test.YtnpideapdjomgaaDoorRA20
namespace Go.Proofs.YtnpideapdjomgaaDoor
open Go.RowKit Go.ChangeShapes Go.WideShapes Go.Deep

set_option maxRecDepth 100000 in
set_option maxHeartbeats 4000000 in
theorem synShaped_any {re : List Nd} {n c : Nat} {A : Option Addr} {w : World} {S : Blocks} (hn : Hid (n = re.length)) (HR : Hid (SliceAt Rep.nd w S A c re)) (HS : Hid (∀ b, S b → b < w.heap.size)) :
    Calls Tryd.prog 32 #[.slice A n c] w fun e w' => e = .returned (.bool (Syn.shaped re)) ∧ Below w.heap.size w w' := by
  have hnc : n ≤ c := by rw [hn.out]; exact HR.out.len
  have hcm := HR.out.max
  obtain ⟨w1, hw1⟩ : ∃ w1, w1 = w.alloc (.cells #[.slice A n c, .int .i64 0, .slice none 0 0] 85) := ⟨_, rfl⟩
  have hb1 : Below w.heap.size w w1 := by rw [hw1]; exact Below.alloc (Below.refl _ _) (Nat.le_refl _) _
  have HL1 : Hid (LookB w1 w.heap.size A c n (0, []) (.slice none 0 0)) := Lib.hid (by
    refine ⟨by rw [hw1]; exact heap_alloc_new _ _, Own.nil _ _ _ _, (fun b h => by cases h), Nat.zero_le _, by simp⟩)
  have HR1 : Hid (SliceAt Rep.nd w1 S A c re) := Lib.hid (HR.out.keep (fun _ h => h) (Same.of_below hb1 HS.out))
  have HND : Hid (Calls Tryd.prog 48 #[.pointer (some ⟨w.heap.size, 0, none⟩), .int .i64 0, .int .i64 0] w1 (NodePost re 260 0 (0, []) w1 w.heap.size A c n (.slice none 0 0))) := Lib.hid (node_any hn hnc hcm HS 260 0 0 (0, []) _ w1 rfl (by omega) HL1 HR1)
  have HB1 := Lib.hid hb1
  have HW1 := Lib.hid hw1
  clear hb1 hw1
  go_enter Tryd.func32, Tryd.ntmps32
  go_upto_region 2 with fail
  rw [← HW1.out]
  have HXB : Hid (∀ W, Only (LX w.heap.size (.slice none 0 0)) w1 W → Below w.heap.size w W) := Lib.hid fun W hW => HB1.out.trans (hW.below HB1.out.size fun b hb => by
    rcases hb with h | h
    · omega
    · cases h)
  cases hnf : Syn.nodeF re 260 0 (0, []) with
  | none =>
    have HSH : Hid (Syn.shaped re = false) := Lib.hid (by unfold Syn.shaped; rw [hnf])
    have HN2 : Hid (Calls Tryd.prog 48 #[.pointer (some ⟨w.heap.size, 0, none⟩), .int .i64 0, .int .i64 0] w1 fun e w' => e = .returned (.bool false) ∧ Only (LX w.heap.size (.slice none 0 0)) w1 w') := Lib.hid (HND.out.mono (by
      rintro e w' ⟨b, rfl, ho, hm⟩
      rw [hnf] at hm
      simp only at hm
      subst hm
      exact ⟨rfl, ho⟩))
    clear hnf HND
    go_wp2_with (go_at_call 48; refine HN2.out.mono ?_; rintro e w2 ⟨rfl, ho2⟩; have HO2 := Lib.hid ho2; clear ho2)
    go_ret
    rw [HSH.out]
    exact ⟨rfl, HXB.out _ HO2.out⟩
  | some t =>
    have HN2 : Hid (Calls Tryd.prog 48 #[.pointer (some ⟨w.heap.size, 0, none⟩), .int .i64 0, .int .i64 0] w1 fun e w' => e = .returned (.bool true) ∧ Only (LX w.heap.size (.slice none 0 0)) w1 w' ∧ w'.cell? ⟨w.heap.size, 1, none⟩ = some (.int .i64 (t.1 : Nat))) := Lib.hid (HND.out.mono (by
      rintro e w' ⟨b, rfl, ho, hm⟩
      rw [hnf] at hm
      simp only at hm
      obtain ⟨rfl, v', hl, -⟩ := hm
      exact ⟨rfl, ho, hl.c1⟩))
    obtain ⟨x, hx⟩ := Syn.node_weigh re 260 0 (0, []) t hnf
    have HX := Lib.hid hx
    have HNF := Lib.hid hnf
    have htl := (Syn.node_le re 260 0 (0, []) t hnf).2
    have HSH : Hid (Syn.shaped re = (t.1 == re.length && decide (x ≤ 16384))) := Lib.hid (by unfold Syn.shaped; rw [hnf]; simp only; rw [show Syn.weighF re 260 0 = some (x, t.1) from hx])
    obtain ⟨ti, hti⟩ : ∃ ti, ti = t.1 := ⟨_, rfl⟩
    rw [← hti] at HN2 HSH htl
    have HTI := Lib.hid hti
    rw [← hn.out] at htl HSH
    have hx16 := Syn.weigh_le re 260 0 _ hx
    simp only at hx16
    clear hnf HND hx hti
    by_cases htn : ti = n
    · subst htn
      have hb0 : ((ti : Int) != (ti : Int)) = false := by simp
      go_upto_region 4 with (go_at_call 48; refine HN2.out.mono ?_; rintro e w2 ⟨rfl, ho2, hc2⟩; have HO2 := Lib.hid ho2; clear ho2)
      have HR2 : Hid (SliceAt Rep.nd w2 S A c re) := Lib.hid (HR.out.keep (fun _ h => h) (Same.of_below (HXB.out _ HO2.out) HS.out))
      have HWG : Hid (Calls Tryd.prog 49 #[.slice A ti c, .int .i64 0] w2 fun e w' => e = .returned (.tuple #[.int .i64 (x : Nat), .int .i64 (ti : Nat)]) ∧ Below w2.heap.size w2 w') := Lib.hid (by
        have := weigh_any hn hnc hcm 260 0 (0, []) t x w2 S HNF HX HR2 (Lib.hid fun b hb => Nat.lt_of_lt_of_le (HS.out b hb) (HXB.out _ HO2.out).size)
        rw [← HTI.out] at this
        exact this)
      clear hc2
      go_wp2_with (go_at_call 49; refine HWG.out.mono ?_; rintro e w3 ⟨rfl, hb3⟩; have HB3 := Lib.hid hb3; clear hb3)
      go_ret
      rw [HSH.out]
      refine ⟨by simp; omega, (HXB.out _ HO2.out).trans (HB3.out.mono (HXB.out _ HO2.out).size)⟩
    · have hb0 : ((ti : Int) != (n : Int)) = true := by simp; omega
      have HSF : Hid (Syn.shaped re = false) := Lib.hid (by rw [HSH.out, show (ti == n) = false from by simpa using htn]; rfl)
      clear htn
      go_wp2_with (go_at_call 48; refine HN2.out.mono ?_; rintro e w2 ⟨rfl, ho2, hc2⟩; have HO2 := Lib.hid ho2; clear ho2)
      go_ret
      rw [HSF.out]
      exact ⟨rfl, HXB.out _ HO2.out⟩
theorem syn_groups_snoc (re : List Nd) (i : Nat) (hi : i < re.length) : Syn.groupsIn (re.take (i + 1)) = Syn.groupsIn (re.take i) + if re[i].op == 7 then 1 else 0 := by
  rw [List.take_add_one, List.getElem?_eq_getElem hi]
  unfold Syn.groupsIn
  rw [List.filter_append, List.length_append]
  congr 1
  simp only [Option.toList_some, List.filter_cons, List.filter_nil]
  split <;> rfl
theorem syn_groups_le (l : List Nd) : Syn.groupsIn l ≤ l.length := List.length_filter_le _ _
set_option maxRecDepth 100000 in
set_option maxHeartbeats 4000000 in
theorem synGroups_any {re : List Nd} {n c : Nat} {A : Option Addr} {w : World} {S : Blocks} (hn : Hid (n = re.length)) (HR : Hid (SliceAt Rep.nd w S A c re)) (HS : Hid (∀ b, S b → b < w.heap.size)) :
    Calls Tryd.prog 34 #[.slice A n c] w fun e w' => e = .returned (.int .i64 (Syn.groups re : Nat)) ∧ Below w.heap.size w w' := by
  have hnc : n ≤ c := by rw [hn.out]; exact HR.out.len
  have hcm := HR.out.max
  have HSH := Lib.hid (synShaped_any hn HR HS)
  obtain ⟨b, hb⟩ : ∃ b, b = Syn.shaped re := ⟨_, rfl⟩
  rw [← hb] at HSH
  have HG : Hid (Syn.groups re = if b then Syn.groupsIn re else 0) := Lib.hid (by rw [hb]; rfl)
  clear hb
  go_enter Tryd.func34, Tryd.ntmps34
  cases b
  · go_wp2_with (go_at_call 32; refine HSH.out.mono ?_; rintro e w2 ⟨rfl, hb2⟩; have HB2 := Lib.hid hb2; clear hb2)
    go_ret
    rw [HG.out]
    exact ⟨rfl, HB2.out⟩
  · go_wp2_with (go_at_call 32; refine HSH.out.mono ?_; rintro e w2 ⟨rfl, hb2⟩; have HB2 := Lib.hid hb2; clear hb2)
    go_loopg [3, 10] n (fun j v3 v10 wr => ∃ q a : Nat, q ≤ n ∧ v3 = .int .i64 (a : Nat) ∧ v10 = .int .i64 (q : Nat) ∧ j = n - q ∧ a ≤ q ∧ Hid (a = Syn.groupsIn (re.take q)) ∧ Hid (Below w.heap.size w wr))
    case atStart => exact ⟨0, 0, Nat.zero_le _, rfl, rfl, rfl, Nat.le_refl _, Lib.hid rfl, HB2⟩
    case round =>
      obtain ⟨q, a, hqn, rfl, rfl, hj, haq, HA, HB⟩ := hrel
      obtain ⟨wq, rfl⟩ : ∃ W : World, W = wr := ⟨_, rfl⟩
      by_cases hq : q < n
      · have hql : q < re.length := by rw [← hn.out]; exact hq
        obtain ⟨g, o, rfl, -, hcs, -⟩ := nd_at HR.out (Same.of_below HB.out HS.out) hql
        obtain ⟨⟨op, q0, q1, q2, q3, nn, mn, mx, kd⟩, hx⟩ : ∃ x, x = re[q] := ⟨_, rfl⟩
        rw [← hx] at hcs
        have d0 : wq.cell? ⟨g, o + q * 9, none⟩ = some (.int .i8 op) := hcs 0 _ rfl
        have d1 : wq.cell? ⟨g, o + q * 9 + 1, none⟩ = some (.int .u64 q0) := hcs 1 _ rfl
        have d2 : wq.cell? ⟨g, o + q * 9 + 2, none⟩ = some (.int .u64 q1) := hcs 2 _ rfl
        have d3 : wq.cell? ⟨g, o + q * 9 + 3, none⟩ = some (.int .u64 q2) := hcs 3 _ rfl
        have d4 : wq.cell? ⟨g, o + q * 9 + 4, none⟩ = some (.int .u64 q3) := hcs 4 _ rfl
        have d5 : wq.cell? ⟨g, o + q * 9 + 5, none⟩ = some (.int .i64 nn) := hcs 5 _ rfl
        have d6 : wq.cell? ⟨g, o + q * 9 + 6, none⟩ = some (.int .i64 mn) := hcs 6 _ rfl
        have d7 : wq.cell? ⟨g, o + q * 9 + 7, none⟩ = some (.int .i64 mx) := hcs 7 _ rfl
        have d8 : wq.cell? ⟨g, o + q * 9 + 8, none⟩ = some (.int .i64 kd) := hcs 8 _ rfl
        have HNX : Hid (Syn.groupsIn (re.take (q + 1)) = a + if op == 7 then 1 else 0) := Lib.hid (by rw [syn_groups_snoc re q hql, ← hx, ← HA.out])
        have HSZ : Hid (w.heap.size ≤ wq.heap.size) := Lib.hid HB.out.size
        clear hcs hx hql
        by_cases h7 : op = 7
        · subst h7
          go_wp2_with fail
          go_roundg (n - (q + 1))
          case rel => exact ⟨q + 1, a + 1, hq, by simp, by simp, rfl, by omega, Lib.hid (by rw [HNX.out]; rfl), Lib.hid (by
            have := HSZ.out
            exact HB.out.alloc this _)⟩
          case measure => omega
        · have hb7 : (op == 7) = false := by simpa using h7
          go_wp2_with fail
          go_roundg (n - (q + 1))
          case rel => exact ⟨q + 1, a, hq, rfl, by simp, rfl, by omega, Lib.hid (by rw [HNX.out, hb7]; rfl), Lib.hid (by
            have := HSZ.out
            exact HB.out.alloc this _)⟩
          case measure => omega
      · obtain rfl : q = n := by omega
        go_wp2_with fail
        go_ret
        refine ⟨?_, HB.out⟩
        rw [HG.out, HA.out, hn.out, List.take_length]; rfl
end Go.Proofs.YtnpideapdjomgaaDoor
