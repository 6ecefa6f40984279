/- Texts that lead to the claim, one behind the other: A plan for the document's disk: the walk of galleyref03.(Disk).Plan. Condition: below 2^40 faults. | The document's calls on a disk that is small and fine: their contracts under one premise. Condition: the counts are below 2^39. | Steps of a script on a disk: what they do, in lists; a step in memory. No conditions. | A step of a script as a value, read. No conditions. -/
import Derived.Test.YtncpeogkccjmcaaGreatDoorTK24
import Derived.Test.YtncpeogkccjmcaaGreatDoorTK14
import Derived.Test.YtncpeogkccjmcaaGreatDoorTK21
import Derived.Test.YtncpeogkccjmcaaGreatDoorTK25
import Derived.Test.YtncpeogkccjmcaaGreatDoorTK26
import Derived.Test.YtncpeogkccjmcaaGreatDoorTK12
import Derived.Test.YtncpeogkccjmcaaGreatDoorTK30
namespace Go.Proofs.YtncpeogkccjmcaaGreatDoor
open Go.RowKit Go.ChangeShapes Go.WideShapes Go.Deep

section
variable {w : World} {F : Blocks} {d : Nat} {s : Disk.St}
theorem stFaultR : SliceType Tryz.prog 38 123 2 16 := SliceType.mk' (z := .agg #[.int .i64 0, .int .i64 0]) Tryz.underlying38 (by kernel_rfl) rfl (by omega)
def prevN (l : List (Int × Int)) (j : Nat) : Int := match l[j - 1]? with | none => 0 | some f => if j = 0 then 0 else f.1
def badF (l : List (Int × Int)) (j : Nat) (N E : Int) : Bool := decide (N < 1 ∨ (0 < j ∧ N ≤ prevN l j) ∨ (E ≠ 23 ∧ E ≠ 22 ∧ E ≠ 24))
set_option maxRecDepth 100000 in
set_option maxHeartbeats 4000000 in
theorem refPlan_any (A : Option Addr) (n c : Nat) (l : List (Int × Int)) (S : Blocks) (HA : Hid (RefFA w F d s)) (hn : Hid (n = l.length)) (hl : Hid (SliceAt Rep.fault w S A c l)) (hS : Hid (∀ b, S b → b < w.heap.size ∧ ¬ F b)) (hnb : n ≤ 1099511627776) :
    Calls Tryz.prog 50 #[.pointer (some ⟨d, 0, none⟩), .slice A n c] w (RefCall w F d (s.plan_ l)) := by
  have HLT := Lib.hid HA.out.lt
  have K0 := Lib.hid (Rk.start HA.out)
  have hnc : n ≤ c := by rw [hn.out]; exact hl.out.len
  have hcm := hl.out.max
  go_enter Tryz.func50, Tryz.ntmps50
  go_wp2_with fail
  go_loopg [5] n (fun k i wr => ∃ (j : Nat), k = n - j ∧ j ≤ n ∧ i = .int .i64 j ∧ Hid (Disk.St.planOk 0 l = Disk.St.planOk (prevN l j) (l.drop j)) ∧ Hid (0 < j → 1 ≤ prevN l j) ∧ Hid (∃ m, wr = w.drewN m))
  case atStart => exact ⟨0, rfl, by omega, rfl, Lib.hid (by unfold prevN; cases l[0 - 1]? <;> rfl), Lib.hid (by omega), Lib.hid ⟨0, rfl⟩⟩
  case round =>
    obtain ⟨j, rfl, hj, rfl, HP, HL, HM⟩ := hrel
    obtain ⟨m9, hm9⟩ := HM.out
    have HB : Hid (Below w.heap.size w wr) := Lib.hid (by rw [hm9]; exact below_dr _ _)
    clear hm9
    by_cases hjn : j < n
    · have hjl : j < l.length := by rw [← hn.out]; exact hjn
      obtain ⟨g, o, cs, rfl, hg, hc, rfl, hw1, hw2⟩ := hl.out.at_ hjl
      obtain ⟨N, hNe⟩ : ∃ N, N = (l[j]).1 := ⟨_, rfl⟩
      obtain ⟨E, hEe⟩ : ∃ E, E = (l[j]).2 := ⟨_, rfl⟩
      rw [← hNe, ← hEe] at hc
      obtain ⟨k1, k2⟩ := (hc.below HB.out (hS.out g hg).1).two
      rw [show Rep.fault.n = 2 from rfl] at k1 k2
      obtain ⟨P, hP⟩ : ∃ P, P = prevN l j := ⟨_, rfl⟩
      have kp : 0 < j → wr.cell? ⟨g, o + (j - 1) * 2, none⟩ = some (.int .i64 P) := fun h0 => by
        have hj1 : j - 1 < l.length := by omega
        obtain ⟨g2, o2, cs2, he2, hg2, hc2, rfl, -, -⟩ := hl.out.at_ hj1
        simp only [Option.some.injEq, Addr.mk.injEq] at he2
        obtain ⟨rfl, rfl, -⟩ := he2
        obtain ⟨q1, -⟩ := (hc2.below HB.out (hS.out g hg2).1).two
        rw [show Rep.fault.n = 2 from rfl] at q1
        rw [q1, hP]
        unfold prevN
        rw [List.getElem?_eq_getElem hj1]
        simp only [if_neg (show ¬ j = 0 by omega)]
      have HNE := Lib.hid hNe
      have HEE := Lib.hid hEe
      have HPE := Lib.hid hP
      clear hc hw1 hw2 hNe hEe hP hg
      go_upto_region 4 with fail
      go_cut [59] from 12 to 59 (fun v wc => v = .bool (badF l j N E) ∧ Hid (∃ m, wc = w.drewN m))
      case first =>
        by_cases h1 : N < 1
        · have e1 : decide (N < 1) = true := decide_eq_true h1
          have HV : Hid (badF l j N E = true) := Lib.hid (by unfold badF; rw [← HPE.out]; exact decide_eq_true (.inl h1))
          go_quiet (fail)
          go_wp2_with fail
          go_meet
          case rel => exact ⟨by rw [HV.out], Lib.hid (by obtain ⟨m, hm⟩ := HM.out; rw [hm, World.drewN_drewN]; exact ⟨_, rfl⟩)⟩
        have e1 : decide (N < 1) = false := decide_eq_false h1
        rcases Nat.eq_zero_or_pos j with hj0 | hj0
        · subst hj0
          simp only [Nat.zero_mul, Nat.add_zero, Nat.zero_add] at k1 k2
          clear kp
          by_cases h3 : E = 23
          · subst h3
            have HV : Hid (badF l 0 N 23 = false) := Lib.hid (by unfold badF; rw [← HPE.out]; exact decide_eq_false (by omega))
            go_quiet (fail)
            go_wp2_with fail
            go_meet
            case rel => exact ⟨by rw [HV.out], Lib.hid (by obtain ⟨m, hm⟩ := HM.out; rw [hm, World.drewN_drewN]; exact ⟨_, rfl⟩)⟩
          have b3 : (E != 23) = true := bne_iff_ne.2 h3
          by_cases h4 : E = 22
          · subst h4
            have HV : Hid (badF l 0 N 22 = false) := Lib.hid (by unfold badF; rw [← HPE.out]; exact decide_eq_false (by omega))
            go_quiet (fail)
            go_wp2_with fail
            go_meet
            case rel => exact ⟨by rw [HV.out], Lib.hid (by obtain ⟨m, hm⟩ := HM.out; rw [hm, World.drewN_drewN]; exact ⟨_, rfl⟩)⟩
          have b4 : (E != 22) = true := bne_iff_ne.2 h4
          by_cases h5 : E = 24
          · subst h5
            have HV : Hid (badF l 0 N 24 = false) := Lib.hid (by unfold badF; rw [← HPE.out]; exact decide_eq_false (by omega))
            go_quiet (fail)
            go_wp2_with fail
            go_meet
            case rel => exact ⟨by rw [HV.out], Lib.hid (by obtain ⟨m, hm⟩ := HM.out; rw [hm, World.drewN_drewN]; exact ⟨_, rfl⟩)⟩
          have b5 : (E != 24) = true := bne_iff_ne.2 h5
          have HV : Hid (badF l 0 N E = true) := Lib.hid (by unfold badF; rw [← HPE.out]; exact decide_eq_true (.inr (.inr ⟨h3, h4, h5⟩)))
          go_quiet (fail)
          go_wp2_with fail
          go_meet
          case rel => exact ⟨by rw [HV.out], Lib.hid (by obtain ⟨m, hm⟩ := HM.out; rw [hm, World.drewN_drewN]; exact ⟨_, rfl⟩)⟩
        · obtain ⟨i, rfl⟩ : ∃ i, j = i + 1 := ⟨j - 1, by omega⟩
          have kq := kp hj0
          rw [Nat.add_sub_cancel] at kq
          clear kp
          by_cases h2 : N ≤ P
          · have e2 : decide (N ≤ P) = true := decide_eq_true h2
            have HV : Hid (badF l (i + 1) N E = true) := Lib.hid (by unfold badF; rw [← HPE.out]; exact decide_eq_true (.inr (.inl ⟨hj0, h2⟩)))
            go_quiet (fail)
            go_wp2_with fail
            go_meet
            case rel => exact ⟨by rw [HV.out], Lib.hid (by obtain ⟨m, hm⟩ := HM.out; rw [hm, World.drewN_drewN]; exact ⟨_, rfl⟩)⟩
          have e2 : decide (N ≤ P) = false := decide_eq_false h2
          by_cases h3 : E = 23
          · subst h3
            have HV : Hid (badF l (i + 1) N 23 = false) := Lib.hid (by unfold badF; rw [← HPE.out]; exact decide_eq_false (by omega))
            go_quiet (fail)
            go_wp2_with fail
            go_meet
            case rel => exact ⟨by rw [HV.out], Lib.hid (by obtain ⟨m, hm⟩ := HM.out; rw [hm, World.drewN_drewN]; exact ⟨_, rfl⟩)⟩
          have b3 : (E != 23) = true := bne_iff_ne.2 h3
          by_cases h4 : E = 22
          · subst h4
            have HV : Hid (badF l (i + 1) N 22 = false) := Lib.hid (by unfold badF; rw [← HPE.out]; exact decide_eq_false (by omega))
            go_quiet (fail)
            go_wp2_with fail
            go_meet
            case rel => exact ⟨by rw [HV.out], Lib.hid (by obtain ⟨m, hm⟩ := HM.out; rw [hm, World.drewN_drewN]; exact ⟨_, rfl⟩)⟩
          have b4 : (E != 22) = true := bne_iff_ne.2 h4
          by_cases h5 : E = 24
          · subst h5
            have HV : Hid (badF l (i + 1) N 24 = false) := Lib.hid (by unfold badF; rw [← HPE.out]; exact decide_eq_false (by omega))
            go_quiet (fail)
            go_wp2_with fail
            go_meet
            case rel => exact ⟨by rw [HV.out], Lib.hid (by obtain ⟨m, hm⟩ := HM.out; rw [hm, World.drewN_drewN]; exact ⟨_, rfl⟩)⟩
          have b5 : (E != 24) = true := bne_iff_ne.2 h5
          have HV : Hid (badF l (i + 1) N E = true) := Lib.hid (by unfold badF; rw [← HPE.out]; exact decide_eq_true (.inr (.inr ⟨h3, h4, h5⟩)))
          go_quiet (fail)
          go_wp2_with fail
          go_meet
          case rel => exact ⟨by rw [HV.out], Lib.hid (by obtain ⟨m, hm⟩ := HM.out; rw [hm, World.drewN_drewN]; exact ⟨_, rfl⟩)⟩
      case rest =>
        obtain ⟨rfl, HM2⟩ := hcut
        obtain ⟨m2, hm2⟩ := HM2.out
        have hb2 : Below w.heap.size w wc := by rw [hm2]; exact below_dr _ _
        clear kp k1 k2
        cases hbad : badF l j N E with
        | true =>
          have h := of_decide_eq_true hbad
          have hno := Lib.hid (plan_no (s := s) hjl HP.out (by
            rw [← HNE.out, ← HEE.out]
            rcases h with h | h | h
            · refine .inl ?_
              rcases Nat.eq_zero_or_pos j with hj0 | hj0
              · have : prevN l j = 0 := by subst hj0; unfold prevN; cases l[0 - 1]? <;> rfl
                omega
              · have := HL.out hj0; omega
            · exact .inl h.2
            · exact .inr h))
          have K1 := Lib.hid (K0.out.far HLT.out hb2)
          clear hm2 hb2
          go_wp2_with fail
          go_ret
          rw [hno.out]
          exact K1.out.done rfl
        | false =>
          have h := of_decide_eq_false hbad
          have hN1 : 1 ≤ N := by
            rcases Int.lt_or_le N 1 with h1 | h1
            · exact absurd (.inl h1) h
            · exact h1
          have hprev : prevN l (j + 1) = N := by unfold prevN; rw [Nat.add_sub_cancel, List.getElem?_eq_getElem hjl, HNE.out]; simp
          have HP2 : Hid (Disk.St.planOk 0 l = Disk.St.planOk (prevN l (j + 1)) (l.drop (j + 1))) := Lib.hid (by
            rw [hprev, HP.out, List.drop_eq_getElem_cons hjl, Disk.St.planOk, ← HNE.out, ← HEE.out]
            have a1 : decide (prevN l j < N) = true := decide_eq_true (by
              rcases Nat.eq_zero_or_pos j with hj0 | hj0
              · have : prevN l j = 0 := by subst hj0; unfold prevN; cases l[0 - 1]? <;> rfl
                omega
              · rcases Int.lt_or_le (prevN l j) N with h9 | h9
                · exact h9
                · exact absurd (.inr (.inl ⟨hj0, h9⟩)) h)
            have a2 : (E == 23 || E == 22 || E == 24) = true := by
              by_cases e1 : E = 23
              · simp [e1]
              · by_cases e2 : E = 22
                · simp [e2]
                · by_cases e3 : E = 24
                  · simp [e3]
                  · exact absurd (.inr (.inr ⟨e1, e2, e3⟩)) h
            rw [a1, a2]; rfl)
          have HL2 : Hid (0 < j + 1 → 1 ≤ prevN l (j + 1)) := Lib.hid (by rw [hprev]; omega)
          clear hm2 hb2 h
          go_wp2_with fail
          go_roundg (n - (j + 1))
          case measure => omega
          case rel => exact ⟨j + 1, rfl, by omega, by go_num, HP2, HL2, HM2⟩
    · obtain rfl : j = n := by omega
      have hok : Disk.St.planOk 0 l = true := by rw [HP.out, List.drop_of_length_le (by rw [← hn.out]; exact Nat.le_refl _)]; rfl
      have HC : Hid (s.plan_ l = ({ s with plan := l, tries := 0 }, 0)) := Lib.hid (by unfold Disk.St.plan_; rw [if_pos hok])
      clear hok
      have HSL : Hid (SliceAt Rep.fault wr S A c l) := Lib.hid (hl.out.keep (fun _ h => h) (Same.of_below HB.out fun b h => (hS.out b h).1))
      go_upto_region 6 with fail
      go_upto_region 7 with (at_builtin; refine wpList_append_Own _ rfl (.tmp 61) (.tmp 62) 38 rfl Rep.fault w.heap.size 123 16 stFaultR nob (.slice (some ⟨wr.heap.size, 0, none⟩) 0 0) [] rfl (Own.new0 _ _ _ _ HB.out.size) S A c l (by rw [← hn.out]; rfl) (hl.out.keep (fun _ h => h) (Same.of_below (HB.out.alloc HB.out.size _) fun b h => (hS.out b h).1)) nob (fun _ h => h.elim) (fun _ h => h) (fun _ _ h => h) (by have := hn.out; simp; omega) (by have := hn.out; simp; omega) (by have := HB.out.size; simp; omega) ?_; intro v3 w3 hown3 hg3 hat3; obtain ⟨tA, tn, tc, rfl, -, -, -⟩ := hown3.form; have HB3 : Hid (Below w.heap.size w w3) := Lib.hid (below_own (HB.out.alloc HB.out.size _) (Own.new0 Rep.fault _ _ _ HB.out.size) hg3 (by have := HB.out.size; simp; omega)); have HO3 := Lib.hid hown3; have K3 := Lib.hid (K0.out.far HLT.out HB3.out); obtain ⟨av, nv, ov, rv, pv, vs, hR⟩ := K3.out.at_; have c6 := hR.cell 6 _ rfl; have f6 := hR.frozen 6; have K4 := Lib.hid (K3.out.set HLT.out (hR.set (t := { s with plan := l }) (k := 6) (u := .slice tA tn tc) rfl hR.all hR.is_ hR.rows hR.now hR.old hR.row (HO3.out.low (Nat.zero_le _)) hR.Fa hR.Fb hR.Fr fun b hb => .inr (HO3.out.block_lt hb))); clear hR hown3 hg3 hat3)
      obtain ⟨w4, hw4⟩ : ∃ W, W = w3.setCell ⟨d, 6, none⟩ (.slice tA tn tc) := ⟨_, rfl⟩
      rw [← hw4] at K4
      rw [← hw4]
      clear hw4 c6 f6
      obtain ⟨av, nv, ov, rv, pv, vs, hR⟩ := K4.out.at_
      have c7 := hR.cell 7 _ rfl
      have f7 := hR.frozen 7
      have K5 := Lib.hid (K4.out.set HLT.out (hR.setN (t := { s with plan := l, tries := 0 }) (k := 7) (u := .int .i64 0) rfl rfl rfl rfl rfl rfl))
      clear hR
      go_wp2_with fail
      go_ret
      rw [HC.out]
      exact K5.out.done rfl
end
end Go.Proofs.YtncpeogkccjmcaaGreatDoor
namespace Go.Proofs.YtncpeogkccjmcaaGreatDoor
open Go.RowKit Go.ChangeShapes Go.WideShapes Go.Deep

namespace Disk
/-- Fine, few tries, a plan that was taken, few files. -/
structure Sm (k : Nat) (s : St) : Prop where
  fine : Fine s
  small : Small k s
  plan : PlanE s
  all : s.all.length ≤ 64 + k
theorem Sm.mono {k l : Nat} {s : St} (h : Sm k s) (hl : k ≤ l) : Sm l s := ⟨h.fine, small_mono h.small hl, h.plan, by have := h.all; omega⟩
theorem planOk_e : ∀ (l : List (Int × Int)) (n : Int), St.planOk n l = true → ∀ f ∈ l, f.2 = 23 ∨ f.2 = 22 ∨ f.2 = 24
  | [], _, _, f, hf => by cases hf
  | g :: r, n, h, f, hf => by
    unfold St.planOk at h
    simp only [Bool.and_eq_true, Bool.or_eq_true, beq_iff_eq] at h
    rcases List.mem_cons.1 hf with rfl | hf
    · rcases h.1.2 with (e | e) | e
      · exact .inl e
      · exact .inr (.inl e)
      · exact .inr (.inr e)
    · exact planOk_e r _ h.2 f hf
section
variable {s : St}
theorem call_pa {names : List Nm} {has : Nm} {f : St → St × Int} (hf : ∀ t, (f t).1.plan = t.plan ∧ (f t).1.all.length ≤ t.all.length + 1) : (s.call names has f).1.plan = s.plan ∧ (s.call names has f).1.all.length ≤ s.all.length + 1 := by
  have ht : s.tried.1.plan = s.plan ∧ s.tried.1.all = s.all := ⟨(tried_tries s).2, (tried_kept s).2.2.1⟩
  unfold St.call
  split
  · exact ⟨rfl, Nat.le_succ _⟩
  · split
    · exact ⟨rfl, Nat.le_succ _⟩
    · split
      · exact ⟨ht.1, by rw [ht.2]; exact Nat.le_succ _⟩
      · have := hf s.tried.1
        rw [ht.1, ht.2] at this
        exact this
theorem act_pa (o : Do) (ho : ∀ l, o ≠ .plan l) : (s.act o).1.plan = s.plan ∧ (s.act o).1.all.length ≤ s.all.length + 1 := by
  cases o with
  | make n =>
    refine call_pa fun t => ?_
    split
    · exact ⟨rfl, Nat.le_succ _⟩
    · exact ⟨rfl, by simp [St.more, St.changes]⟩
  | append n b =>
    refine call_pa fun t => ?_
    split
    · exact ⟨rfl, Nat.le_succ _⟩
    · exact ⟨rfl, by simp [St.more, St.setNd]⟩
  | sync n => exact call_pa fun t => ⟨rfl, by simp [St.more, St.setNd]⟩
  | rename n m =>
    refine call_pa fun t => ?_
    dsimp only
    split
    · exact ⟨rfl, Nat.le_succ _⟩
    · exact ⟨rfl, Nat.le_succ _⟩
  | remove n =>
    have ht : s.tried.1.plan = s.plan ∧ s.tried.1.all = s.all := ⟨(tried_tries s).2, (tried_kept s).2.2.1⟩
    show (s.remove n).1.plan = s.plan ∧ (s.remove n).1.all.length ≤ s.all.length + 1
    unfold St.remove
    split
    · exact ⟨rfl, Nat.le_succ _⟩
    · split
      · exact ⟨rfl, Nat.le_succ _⟩
      · split
        · exact ⟨ht.1, by rw [ht.2]; exact Nat.le_succ _⟩
        · exact ⟨ht.1, by show s.tried.1.all.length ≤ _; rw [ht.2]; exact Nat.le_succ _⟩
  | syncDir => exact call_pa fun t => ⟨rfl, Nat.le_succ _⟩
  | read n => exact ⟨rfl, Nat.le_succ _⟩
  | spoil n b =>
    show (s.spoil n b).1.plan = s.plan ∧ (s.spoil n b).1.all.length ≤ s.all.length + 1
    unfold St.spoil
    split
    · exact ⟨rfl, Nat.le_succ _⟩
    · exact ⟨rfl, by simp [St.setNd]⟩
  | plan l => exact absurd rfl (ho l)
  | off => exact ⟨rfl, Nat.le_succ _⟩
  | start d k =>
    show (s.start d k).plan = s.plan ∧ (s.start d k).all.length ≤ _
    unfold St.start
    split
    · exact ⟨rfl, Nat.le_succ _⟩
    · exact ⟨rfl, by show (St.cuts k 0 _ s.all).length ≤ _; rw [cuts_len]; exact Nat.le_succ _⟩
  | none => exact ⟨rfl, Nat.le_succ _⟩
end
theorem Sm.act {k : Nat} {s : St} (h : Sm k s) (o : Do) : Sm (k + 1) (s.act o).1 := by
  refine ⟨fine_act h.fine o, small_act h.small o, ?_, ?_⟩
  · by_cases hp : ∃ l, o = .plan l
    · obtain ⟨l, rfl⟩ := hp
      show PlanE (s.plan_ l).1
      unfold St.plan_
      split
      · rename_i e
        exact planOk_e l 0 e
      · exact h.plan
    · intro f hf
      rw [(act_pa (s := s) o fun l e => hp ⟨l, e⟩).1] at hf
      exact h.plan f hf
  · by_cases hp : ∃ l, o = .plan l
    · obtain ⟨l, rfl⟩ := hp
      have : (s.plan_ l).1.all = s.all := by unfold St.plan_; split <;> rfl
      show (s.plan_ l).1.all.length ≤ _
      rw [this]; have := h.all; omega
    · have h1 := (act_pa (s := s) o fun l e => hp ⟨l, e⟩).2
      have := h.all
      omega
theorem Sm.from_ {room : Int} {fs : List Fin_} (h : fromErr room fs = 0) : Sm 0 (fromSt room fs) := ⟨fine_from h, small_from _ _, fun f hf => (by cases hf), by
  show (fs.map Fin_.nd).length ≤ _
  rw [List.length_map]
  unfold fromErr at h
  split at h
  · cases h
  · rename_i h1
    simp only [not_or] at h1
    omega⟩
theorem size_le {s : St} (h : Fine s) : St.size s s.now ≤ 1152921504606846976 := by
  have h1 : ∀ l : Fo, St.size s l ≤ l.length * 16777216 := fun l => by
    unfold St.size
    induction l with
    | nil => simp
    | cons p r ih =>
      simp only [List.map_cons, List.sum_cons, List.length_cons]
      have : (Option.map (fun x => x.bytes.length) s.all[p.2]?).getD 0 ≤ 16777216 := by
        cases e : s.all[p.2]? with
        | none => simp
        | some d => simpa using h.big d (List.mem_of_getElem? e)
      rw [Nat.add_mul]; omega
  have := h1 s.now
  have := h.nowL
  have : s.now.length * 16777216 ≤ 64 * 16777216 := Nat.mul_le_mul_right _ this
  omega
end Disk
section
variable {w : World} {F : Blocks} {d : Nat} {s : Disk.St} {k : Nat}
theorem sm_bounds (h : Disk.Sm k s) (hk : k ≤ 549755813888) : (0 ≤ s.tries ∧ s.tries ≤ 4611686018427387904) ∧ (0 ≤ s.done ∧ s.done ≤ 4611686018427387904) ∧ s.now.length ≤ 2147483647 ∧ s.row.length ≤ 1099511627776 ∧ s.all.length ≤ 1099511627776 ∧ (∀ i ∈ Disk.ids s.now, i < s.all.length) ∧ (∀ d ∈ s.all, d.bytes.length ≤ 16777216) := by
  obtain ⟨h1, h2, h3, h4, h5⟩ := h.small
  have := h.fine.nowL
  have := h.all
  exact ⟨⟨h1, by omega⟩, ⟨h3, by omega⟩, by omega, by omega, by omega, h.fine.nowI, h.fine.big⟩
variable (nm nt : ByteArray) (HA : Hid (RefFA w F d s)) (hsm : Hid (Disk.Sm k s)) (hk : k ≤ 549755813888) (hnm : nm.size ≤ maxLen)
include hsm HA hk hnm
theorem sMake : Calls Tryz.prog 45 #[.pointer (some ⟨d, 0, none⟩), .string nm] w (RefCall w F d (s.make nm.data.toList)) := by
  obtain ⟨a, b, c, e, f, g, h⟩ := sm_bounds hsm.out hk
  exact refMake_any nm HA (Lib.hid hnm) a b c e f
theorem sSync : Calls Tryz.prog 47 #[.pointer (some ⟨d, 0, none⟩), .string nm] w (RefCall w F d (s.sync nm.data.toList)) := by
  obtain ⟨a, b, c, e, f, g, h⟩ := sm_bounds hsm.out hk
  exact refSync_any nm HA (Lib.hid hnm) a b c e g h
theorem sRemove : Calls Tryz.prog 98 #[.pointer (some ⟨d, 0, none⟩), .string nm] w (RefCall w F d (s.remove nm.data.toList)) := by
  obtain ⟨a, b, c, e, f, g, h⟩ := sm_bounds hsm.out hk
  exact refRemove_any nm HA (Lib.hid hnm) a b c e hsm.out.plan
theorem sRename (hnt : nt.size ≤ maxLen) : Calls Tryz.prog 48 #[.pointer (some ⟨d, 0, none⟩), .string nm, .string nt] w (RefCall w F d (s.rename nm.data.toList nt.data.toList)) := by
  obtain ⟨a, b, c, e, f, g, h⟩ := sm_bounds hsm.out hk
  exact refRename_any nm nt HA (Lib.hid hnm) (Lib.hid hnt) a b c e fun i hi => Nat.lt_of_lt_of_le (g i hi) f
end
end Go.Proofs.YtncpeogkccjmcaaGreatDoor
namespace Go.Proofs.YtncpeogkccjmcaaGreatDoor
open Go.RowKit Go.ChangeShapes Go.WideShapes Go.Deep

/-- A step of a script. -/
structure Op29V where
  kind : Int
  name : Disk.Nm
  dst : Disk.Nm
  b : List UInt8
  faults : List (Int × Int)
  num : Int
  keep : List Int
def Rep.op29 : Rep Op29V where
  n := 7
  is := fun w S cs o => ∃ A c B e C k, cs = [.int .i64 o.kind, sv o.name, sv o.dst, .slice A o.b.length c, .slice B o.faults.length e, .int .i64 o.num, .slice C o.keep.length k] ∧ SliceAt Rep.byte w S A c o.b ∧ SliceAt Rep.fault w S B e o.faults ∧ SliceAt (Rep.int .i64) w S C k o.keep ∧ o.name.length ≤ maxLen ∧ o.dst.length ≤ maxLen
  size := by rintro _ _ _ _ ⟨_, _, _, _, _, _, rfl, _⟩; rfl
  keep := by rintro _ _ _ _ _ _ ⟨A, c, B, e, C, k, rfl, h1, h2, h3, h4⟩ hS hk; exact ⟨A, c, B, e, C, k, rfl, h1.keep hS hk, h2.keep hS hk, h3.keep hS hk, h4⟩
  one := by rintro _ _ _ _ ⟨_, _, _, _, _, _, rfl, _⟩; simp [Value.oneCell', sv]
namespace Disk
def St.step29 (s : St) (o : Op29V) : St × Int :=
  if o.kind = 1 then (if (s.make o.name).2 ≠ 0 then s.make o.name else (s.make o.name).1.append o.name o.b)
  else if o.kind = 2 then s.sync o.name
  else if o.kind = 3 then s.rename o.name o.dst
  else if o.kind = 4 then s.syncDir
  else if o.kind = 5 then s.plan_ o.faults
  else if o.kind = 6 then (s.off, 0)
  else if o.kind = 7 then (s.start o.num o.keep, 0)
  else if o.kind = 8 then s.clean
  else (s, 0)
theorem sm_cleanGo : ∀ (l : List Nm) {k : Nat} {s : St}, Sm k s → Sm (k + l.length) (s.cleanGo l).1
  | [], _, _, h => h
  | n :: r, k, s, h => by
    have h1 := h.act (.remove n)
    unfold St.cleanGo
    split
    · have h2 : Sm (k + 1 + r.length) ((s.remove n).1.cleanGo r).1 := sm_cleanGo r h1
      exact h2.mono (by rw [List.length_cons]; omega)
    · exact h1.mono (by rw [List.length_cons]; omega)
theorem sm_clean {s : St} {k : Nat} (h : Sm k s) : Sm (k + 70) s.clean.1 := by
  have hl := stale_len h.fine
  have h1 := sm_cleanGo s.stale h
  unfold St.clean
  split
  · exact h.mono (by omega)
  · split
    · exact h1.mono (by omega)
    · split
      · exact h.mono (by omega)
      · exact (h1.act .syncDir).mono (by omega)
theorem sm_step29 {s : St} {k : Nat} (h : Sm k s) (o : Op29V) : Sm (k + 70) (s.step29 o).1 := by
  unfold St.step29
  split
  · have h1 := h.act (.make o.name)
    split
    · exact h1.mono (by omega)
    · exact (h1.act (.append o.name o.b)).mono (by omega)
  · split
    · exact (h.act (.sync o.name)).mono (by omega)
    · split
      · exact (h.act (.rename o.name o.dst)).mono (by omega)
      · split
        · exact (h.act .syncDir).mono (by omega)
        · split
          · exact (h.act (.plan o.faults)).mono (by omega)
          · split
            · exact (h.act .off).mono (by omega)
            · split
              · exact (h.act (.start o.num o.keep)).mono (by omega)
              · split
                · exact sm_clean h
                · exact h.mono (by omega)
/-- The first so many are removed. -/
theorem cleanGo_take29 {s : St} : ∀ (l : List Nm) (i : Nat) (hi : i < l.length), (s.cleanGo (l.take i)).2 = 0 → s.cleanGo (l.take (i + 1)) = ((s.cleanGo (l.take i)).1.remove l[i]) := by
  intro l
  induction l generalizing s with
  | nil => intro i hi; simp at hi
  | cons n r ih =>
    intro i hi h0
    cases i with
    | zero =>
      simp only [List.take_succ_cons, List.take_zero, List.getElem_cons_zero]
      show (if (s.remove n).2 = 0 then St.cleanGo (s.remove n).1 [] else s.remove n) = (s.cleanGo []).1.remove n
      split
      · rename_i e
        show ((s.remove n).1, (0 : Int)) = s.remove n
        rw [← e]
      · rfl
    | succ i =>
      simp only [List.take_succ_cons, List.getElem_cons_succ] at h0 ⊢
      unfold St.cleanGo at h0 ⊢
      by_cases e : (s.remove n).2 = 0
      · rw [if_pos e] at h0 ⊢
        rw [if_pos e]
        exact ih i (by simpa using hi) h0
      · rw [if_neg e] at h0; exact absurd h0 e
theorem cleanGo_stop29 {s : St} : ∀ (l : List Nm) (i : Nat), (s.cleanGo (l.take i)).2 ≠ 0 → s.cleanGo l = s.cleanGo (l.take i) := by
  intro l
  induction l generalizing s with
  | nil => intro i h; simp at h ⊢
  | cons n r ih =>
    intro i h
    cases i with
    | zero => exact absurd rfl h
    | succ i =>
      simp only [List.take_succ_cons] at h ⊢
      unfold St.cleanGo at h ⊢
      by_cases e : (s.remove n).2 = 0
      · rw [if_pos e] at h ⊢
        rw [if_pos e]
        exact ih i h
      · rw [if_neg e, if_neg e]
end Disk
end Go.Proofs.YtncpeogkccjmcaaGreatDoor
namespace Go.Proofs.YtncpeogkccjmcaaGreatDoor
open Go.RowKit Go.ChangeShapes Go.WideShapes Go.Deep

/-- A step as a value. -/
structure OpP29 where
  kind : Int
  name : ByteArray
  dst : ByteArray
  bA : Option Addr
  bn : Nat
  bc : Nat
  fA : Option Addr
  fn : Nat
  fc : Nat
  num : Int
  kA : Option Addr
  kn : Nat
  kc : Nat
def OpP29.cells (o : OpP29) : Array Value := #[.int .i64 o.kind, .string o.name, .string o.dst, .slice o.bA o.bn o.bc, .slice o.fA o.fn o.fc, .int .i64 o.num, .slice o.kA o.kn o.kc]
/-- What it reads as. -/
structure OpIs29 (w : World) (S : Blocks) (o : OpP29) (v : Op29V) : Prop where
  kind : o.kind = v.kind
  name : o.name.data.toList = v.name
  dst : o.dst.data.toList = v.dst
  num : o.num = v.num
  bn : o.bn = v.b.length
  fn : o.fn = v.faults.length
  kn : o.kn = v.keep.length
  b : SliceAt Rep.byte w S o.bA o.bc v.b
  f : SliceAt Rep.fault w S o.fA o.fc v.faults
  k : SliceAt (Rep.int .i64) w S o.kA o.kc v.keep
  nl : o.name.size ≤ maxLen
  dl : o.dst.size ≤ maxLen
theorem OpIs29.same {w w' : World} {S : Blocks} {o : OpP29} {v : Op29V} (h : OpIs29 w S o v) (hs : Same S w w') : OpIs29 w' S o v :=
  { h with b := h.b.keep (fun _ h => h) hs, f := h.f.keep (fun _ h => h) hs, k := h.k.keep (fun _ h => h) hs }
theorem seven29 {w : World} {b : Nat} (C : OpP29) (h : w.heap[b]? = some (.cells C.cells 70 (0, 0))) :
    w.cell? ⟨b, 0, none⟩ = some (.int .i64 C.kind) ∧ w.cell? ⟨b, 1, none⟩ = some (.string C.name) ∧ w.cell? ⟨b, 2, none⟩ = some (.string C.dst) ∧ w.cell? ⟨b, 3, none⟩ = some (.slice C.bA C.bn C.bc) ∧ w.cell? ⟨b, 4, none⟩ = some (.slice C.fA C.fn C.fc) ∧ w.cell? ⟨b, 5, none⟩ = some (.int .i64 C.num) ∧ w.cell? ⟨b, 6, none⟩ = some (.slice C.kA C.kn C.kc) :=
  ⟨(cell_of_row _ _ 0 _ _ (0, 0) h).trans rfl, (cell_of_row _ _ 1 _ _ (0, 0) h).trans rfl, (cell_of_row _ _ 2 _ _ (0, 0) h).trans rfl, (cell_of_row _ _ 3 _ _ (0, 0) h).trans rfl, (cell_of_row _ _ 4 _ _ (0, 0) h).trans rfl, (cell_of_row _ _ 5 _ _ (0, 0) h).trans rfl, (cell_of_row _ _ 6 _ _ (0, 0) h).trans rfl⟩
theorem step_kinds (s : Disk.St) (v : Op29V) : (v.kind = 1 → s.step29 v = if (s.make v.name).2 ≠ 0 then s.make v.name else (s.make v.name).1.append v.name v.b) ∧ (v.kind = 2 → s.step29 v = s.sync v.name) ∧ (v.kind = 3 → s.step29 v = s.rename v.name v.dst) ∧ (v.kind = 4 → s.step29 v = s.syncDir) ∧ (v.kind = 5 → s.step29 v = s.plan_ v.faults) ∧ (v.kind = 6 → s.step29 v = (s.off, 0)) ∧ (v.kind = 7 → s.step29 v = (s.start v.num v.keep, 0)) ∧ (v.kind = 8 → s.step29 v = s.clean) ∧ (v.kind ≠ 1 → v.kind ≠ 2 → v.kind ≠ 3 → v.kind ≠ 4 → v.kind ≠ 5 → v.kind ≠ 6 → v.kind ≠ 7 → v.kind ≠ 8 → s.step29 v = (s, 0)) := by
  refine ⟨?_, ?_, ?_, ?_, ?_, ?_, ?_, ?_, ?_⟩
  all_goals
    intros
    unfold Disk.St.step29
    simp [*]
end Go.Proofs.YtncpeogkccjmcaaGreatDoor
