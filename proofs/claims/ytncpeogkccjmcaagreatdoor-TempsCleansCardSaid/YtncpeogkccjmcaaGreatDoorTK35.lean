/- Texts that lead to the claim, one behind the other: Rows of bytes that share no memory are found so: the walk of (galleyref00.Bag).apartBytes. Conditions: rows of the run's own, each in a block of its own; room. -/
import Derived.Test.YtncpeogkccjmcaaGreatDoorProg
import Derived.Test.YtncpeogkccjmcaaGreatDoorTK33
import Derived.Test.YtncpeogkccjmcaaGreatDoorTK6
import Derived.WalkKit
import Derived.WalkSpells
import Derived.Deep.LoopGhost
import Derived.Deep.QuietTactic
import Derived.BigQuiet
import Derived.Lib.Hide
namespace Go.Proofs.YtncpeogkccjmcaaGreatDoor
open Go.RowKit

section
variable (gb gB cB N : Nat) (As : Nat → Option Addr) (ks cs : Nat → Nat) (w : World) (base : Nat)
def bmark (n i : Nat) : Int := (31 * (n : Int) + 7 * (i : Int) + 3) % 256
def mkB (n i : Nat) : List Value := [.int .u8 (bmark n i)]
theorem stRowsB : SliceType Tryz.prog 45 67 1 24 := SliceType.mk' (z := .slice none 0 0) Tryz.underlying45 (by kernel_rfl) rfl (by omega)
set_option maxRecDepth 100000 in
set_option maxHeartbeats 8000000 in
theorem apartBytes_any (hB : w.cell? ⟨gb, 0, none⟩ = some (.slice (some ⟨gB, 0, none⟩) N cB)) (hN : N ≤ 65536) (hNc : N ≤ cB) (hcB : cB ≤ 9223372036854775807)
    (hrow : ∀ m, m < N → w.cell? ⟨gB, m, none⟩ = some (.slice (As m) (ks m) (cs m))) (R : Rows0 1 5 base N (fun m => .slice (As m) (ks m) (cs m)) ks w)
    (hbase : base ≤ w.heap.size) (h1 : ¬ RowB N (fun m => .slice (As m) (ks m) (cs m)) gb) (h2 : ¬ RowB N (fun m => .slice (As m) (ks m) (cs m)) gB) (hk : ∀ m, m < N → ks m ≤ 1099511627776) :
    Calls Tryz.prog 63 #[.pointer (some ⟨gb, 0, none⟩)] w fun e w' => e = .returned (.bool true) ∧ Only (RowB N (fun m => .slice (As m) (ks m) (cs m))) w w' := by
  obtain ⟨vs, hvs⟩ : ∃ vs : Nat → Value, vs = fun m => .slice (As m) (ks m) (cs m) := ⟨_, rfl⟩
  rw [← hvs] at R h1 h2 ⊢
  have hgb : gb < w.heap.size := World.block_lt_of_cell? w _ hB
  have hc0 : ∀ wr, Only (RowB N vs) w wr → wr.cell? ⟨gb, 0, none⟩ = some (.slice (some ⟨gB, 0, none⟩) N cB) := fun wr ho => (World.cell?_of_block (ho.block gb hgb h1)).trans hB
  have hr0 : ∀ wr m, Only (RowB N vs) w wr → m < N → wr.cell? ⟨gB, m, none⟩ = some (.slice (As m) (ks m) (cs m)) := fun wr m ho hm => (World.cell?_of_block (ho.block gB (World.block_lt_of_cell? w _ (hrow m hm)) h2)).trans (hrow m hm)
  have hv : ∀ m, vs m = .slice (As m) (ks m) (cs m) := fun m => by rw [hvs]
  have hkc : ∀ m, m < N → ks m ≤ cs m ∧ cs m ≤ 9223372036854775807 := fun m hm => by
    obtain ⟨l, hl, hown⟩ := R.own m hm
    obtain ⟨_, _, _, he, hl2, hc1, hc2⟩ := hown.form
    rw [hv m] at he
    simp only [Value.slice.injEq] at he
    obtain ⟨-, rfl, rfl⟩ := he
    exact ⟨hc1, hc2⟩
  have HR := Lib.hid R
  have HC := Lib.hid hc0
  have HW := Lib.hid hr0
  have HV := Lib.hid hv
  have HK := Lib.hid hk
  have HKC := Lib.hid hkc
  clear hvs R h1 h2 hk hB hrow hc0 hr0 hv hkc hgb
  have hcell := HC.out w (Only.refl _ _)
  go_enter Tryz.func63, Tryz.ntmps63
  go_wp2_with fail
  clear hcell
  go_loopg [3] N (fun k iv wr => ∃ n : Nat, n ≤ N ∧ iv = .int .i64 n ∧ k = N - n ∧ Hid (Only (RowB N vs) w wr) ∧ Hid (Ph1 1 5 base N vs ks mkB n 0 wr))
  case atStart => exact ⟨0, Nat.zero_le _, rfl, rfl, Lib.hid (Only.refl _ _), Lib.hid (Ph1.start HR.out)⟩
  case round =>
    obtain ⟨n, hn, rfl, rfl, HO, HP⟩ := hrel
    have hcell := HC.out wr HO.out
    by_cases hnN : n < N
    · have hkn := HK.out n hnN
      obtain ⟨hkn1, hkn2⟩ := HKC.out n hnN
      go_wp2_with fail
      clear hcell
      obtain ⟨wo, rfl⟩ : ∃ wo : World, wo = wr := ⟨_, rfl⟩
      go_loopg [4] (ks n) (fun k iv wr => ∃ i : Nat, i ≤ ks n ∧ iv = .int .i64 i ∧ k = ks n - i ∧ Hid (Only (RowB N vs) w wr) ∧ Hid (Ph1 1 5 base N vs ks mkB n i wr))
      case atStart => exact ⟨0, Nat.zero_le _, rfl, rfl, HO, HP⟩
      case round =>
        obtain ⟨i, hi, rfl, rfl, HO2, HP2⟩ := hrel
        have hcell := HC.out wr HO2.out
        have hcell2 := HW.out wr n HO2.out hnN
        by_cases hik : i < ks n
        · obtain ⟨l, hl1, hown, -, -⟩ := HP2.out n hnN
          obtain ⟨g, c, u, he, -, -, hcu, hfr, -, hset⟩ := hown.cellAt rfl (k := i) (by omega)
          have hA : As n = some ⟨g, 0, none⟩ := by
            rw [HV.out n] at he
            simp only [Value.slice.injEq] at he
            exact he.1
          rw [hA] at hcell2
          have hvn : (vs n).ownBlock = some g := by rw [he]; rfl
          have HVN := Lib.hid hvn
          clear hset he hl1 hown hvn
          go_wp2_with fail
          go_roundg (ks n - (i + 1))
          case measure => omega
          case rel =>
            refine ⟨i + 1, by omega, by go_num, rfl, Lib.hid (HO2.out.grown (setCell_grown g wr i _) fun b hb => .inl ⟨n, hnN, by rw [HVN.out, hb]⟩), Lib.hid (HP2.out.step HR.out hnN hik (by rw [HVN.out]; exact setCell_grown g wr i _) fun l hl ho => ?_)⟩
            have hvs := HV.out n
            rw [hA] at hvs
            rw [hvs] at ho ⊢
            exact ho.set1 (by omega) rfl
        · obtain rfl : i = ks n := by omega
          go_wp2_with fail
          go_roundg (N - (n + 1))
          case measure => omega
          case rel => exact ⟨n + 1, by omega, by go_num, rfl, HO2, Lib.hid (HP2.out.next (Nat.le_refl _))⟩
    · obtain rfl : n = N := by omega
      have HP1 := Lib.hid (Ph2.start (eS := 67) HO.out HP.out.all)
      clear HP hnN
      go_wp2_with fail
      clear hcell
      obtain ⟨w1, rfl⟩ : ∃ w1 : World, w1 = wr := ⟨_, rfl⟩
      go_loopg [5, 6, 7] n (fun k v1 v2 iv wr => ∃ (m : Nat) (U : Blocks) (L1 L2 : List (List Value)), m ≤ n ∧ iv = .int .i64 m ∧ k = n - m ∧ Hid (Ph2 1 5 67 base n vs ks mkB w wr m m v1 v2 U L1 L2) ∧ Hid (L1.length = m) ∧ Hid (L2.length = m))
      case atStart => exact ⟨0, nob, [], [], Nat.zero_le _, rfl, rfl, HP1, Lib.hid rfl, Lib.hid rfl⟩
      case round =>
        obtain ⟨m, U, L1, L2, hm, rfl, rfl, HP, HL1, HL2⟩ := hrel
        have hcell := HC.out wr HP.out.only
        by_cases hmn : m < n
        · have hcell2 := HW.out wr m HP.out.only hmn
          have hkm := HK.out m hmn
          obtain ⟨hkm1, hkm2⟩ := HKC.out m hmn
          have HI := Lib.hid (In2.start HR.out HP.out hmn HL1.out HL2.out)
          go_wp2_with fail
          clear hcell hcell2
          obtain ⟨w2, rfl⟩ : ∃ w2 : World, w2 = wr := ⟨_, rfl⟩
          rw [HV.out m] at HI
          go_loopg [5, 8, 9] 70 (fun k v1 v iv wr => ∃ (i : Nat) (f : Bool) (L1 : List (List Value)), ks m ≤ i ∧ i ≤ ks m + 70 ∧ iv = .int .i64 i ∧ k = ks m + 70 - i ∧ Hid (f = decide (ks m < i)) ∧ Hid (In2 1 5 67 base n vs ks mkB w wr m i f v v1 u6 U L1 L2))
          case atStart => exact ⟨ks m, false, L1, Nat.le_refl _, by omega, rfl, by omega, Lib.hid (by simp), HI⟩
          case round =>
            obtain ⟨i, f, M1, hi1, hi2, rfl, rfl, HF, HI2⟩ := hrel
            have hcell := HC.out wr HI2.out.p.only
            have hcell2 := HW.out wr m HI2.out.p.only hmn
            by_cases hik : i < ks m + 70
            · by_cases hfst : i = ks m
              · subst hfst
                obtain rfl : f = false := by rw [HF.out]; simp
                have hl1 : M1.length ≤ 65536 := by have := HI2.out.l1; simp at this; omega
                go_wp2_with (first | (at_builtin; refine wpList_append_OwnFr _ rfl (.tmp 82) (.tmp 90) 67 rfl (Rep.raw 1) base 5 1 stBytes u8 (marks mkB m (ks m)) rfl (HI2.out.alloc _).cur _ _ _ [mkB m (ks m)] rfl (SliceAt.newOne (Rep.raw 1) _ _ _ _ _ ⟨rfl, rfl, by simp [mkB, Value.oneCell']⟩ (by simp)) (by simp) (fun _ _ h => h) (by rw [marks_len]; simp; omega) (by rw [marks_len]; simp; omega) (by have := HI2.out.p.only.size; simp; omega) ?_; intro v' w3 hown3 hg3 hat3 hst3; have HI3 := Lib.hid ((HI2.out.alloc _).grow HR.out hi1 (fun h => by cases h) hown3 hg3 hat3 hst3); obtain ⟨A', n', c', rfl, -, -, -⟩ := hown3.form; have hcell3 := HC.out _ HI3.out.p.only; have hcell4 := HW.out _ m HI3.out.p.only hmn; clear hown3 hg3 hat3 hst3) | (at_builtin; refine wpList_append_Own _ rfl (.tmp 102) (.tmp 104) 45 rfl Rep.val w.heap.size 67 24 stRowsB nob u5 M1 rfl (HI3.out.alloc _).p.o1 _ _ _ [[_]] rfl (SliceAt.newOne Rep.val _ _ _ _ _ ⟨rfl, rfl, by simp [Value.oneCell']⟩ (by simp)) nob (fun _ h => h.elim) (fun _ h => h) (fun _ _ h => h) (by simp; omega) (by simp; omega) (by have := HI3.out.p.only.size; simp; omega) ?_; intro v4 w4 hown4 hg4 hat4; have HI4 := Lib.hid ((HI3.out.alloc _).put1 HR.out hown4 hg4 hat4); clear hown4 hg4 hat4))
                go_roundg (ks m + 70 - (ks m + 1))
                case measure => omega
                case rel => exact ⟨ks m + 1, true, _, by omega, by omega, by go_num, rfl, Lib.hid (by simp), HI4⟩
              · obtain rfl : f = true := by rw [HF.out]; simp; omega
                have hne : ((i : Int) == (ks m : Int)) = false := by rw [beq_eq_false_iff_ne]; omega
                have hne2 : (i == ks m) = false := by rw [beq_eq_false_iff_ne]; omega
                have hgt : ks m < i := by omega
                clear hfst
                go_wp2_with (at_builtin; refine wpList_append_OwnFr _ rfl (.tmp 82) (.tmp 90) 67 rfl (Rep.raw 1) base 5 1 stBytes u8 (marks mkB m i) rfl (HI2.out.alloc _).cur _ _ _ [mkB m i] rfl (SliceAt.newOne (Rep.raw 1) _ _ _ _ _ ⟨rfl, rfl, by simp [mkB, Value.oneCell']⟩ (by simp)) (by simp) (fun _ _ h => h) (by rw [marks_len]; simp; omega) (by rw [marks_len]; simp; omega) (by have := HI2.out.p.only.size; simp; omega) ?_; intro v' w3 hown3 hg3 hat3 hst3; have HI3 := Lib.hid ((HI2.out.alloc _).grow HR.out hi1 (fun _ => by omega) hown3 hg3 hat3 hst3); obtain ⟨A', n', c', rfl, -, -, -⟩ := hown3.form; have hcell3 := HC.out _ HI3.out.p.only; have hcell4 := HW.out _ m HI3.out.p.only hmn; clear hown3 hg3 hat3 hst3)
                go_roundg (ks m + 70 - (i + 1))
                case measure => omega
                case rel => exact ⟨i + 1, true, _, by omega, by omega, by go_num, rfl, Lib.hid (by simp; omega), HI3⟩
            · obtain rfl : i = ks m + 70 := by omega
              obtain rfl : f = true := by rw [HF.out]; simp
              obtain ⟨A5, n5, c5, rfl, -, -, -⟩ := HI2.out.cur.form
              have hl2 : L2.length ≤ 65536 := by have := HL2.out; omega
              go_wp2_with (at_builtin; refine wpList_append_Own _ rfl (.tmp 106) (.tmp 108) 45 rfl Rep.val w.heap.size 67 24 stRowsB nob u6 L2 rfl (HI2.out.alloc _).p.o2 _ _ _ [[_]] rfl (SliceAt.newOne Rep.val _ _ _ _ _ ⟨rfl, rfl, by simp [Value.oneCell']⟩ (by simp)) nob (fun _ h => h.elim) (fun _ h => h) (fun _ _ h => h) (by simp; omega) (by simp; omega) (by have := HI2.out.p.only.size; simp; omega) ?_; intro v4 w4 hown4 hg4 hat4; have HI4 := Lib.hid ((HI2.out.alloc _).put2 HR.out hown4 hg4 hat4); clear hown4 hg4 hat4)
              go_roundg (n - (m + 1))
              case measure => omega
              case rel => exact ⟨m + 1, _, M1, _, by omega, by go_num, rfl, HI4, Lib.hid (by have := HI2.out.l1; simpa using this), Lib.hid (by have := HL2.out; simp; omega)⟩
        · have e0 : n = m := by omega
          subst e0
          obtain ⟨A1, n1, c1, rfl, hn1, hnc1, hc1⟩ := HP.out.o1.form
          obtain ⟨A2, n2, c2, rfl, hn2, hnc2, hc2⟩ := HP.out.o2.form
          have e1 : n = n1 := by have := hn1.out; have := HL1.out; omega
          have e2 : n = n2 := by have := hn2.out; have := HL2.out; omega
          subst e1
          subst e2
          have HB := Lib.hid HP.out.only
          clear hmn hm
          go_wp2_with fail
          clear hcell
          obtain ⟨w2, rfl⟩ : ∃ w2 : World, w2 = wr := ⟨_, rfl⟩
          go_loopg [10] n (fun k iv w3 => ∃ a : Nat, a ≤ n ∧ iv = .int .i64 a ∧ k = n - a ∧ w3 = w2)
          case atStart => exact ⟨0, Nat.zero_le _, rfl, rfl, rfl⟩
          case round =>
            obtain ⟨a, ha, rfl, rfl, rfl⟩ := hrel
            by_cases han : a < n
            · obtain ⟨hbs, ⟨o1, ho1, hr1⟩, o2, ho2, hr2⟩ := HP.out.done a han
              obtain ⟨g2, c2', hv2, -, -, hq2⟩ := HP.out.o2.cell1 (i := a) (by have := HL2.out; omega) ho2
              obtain ⟨g1, c1', hv1, -, -, hq1⟩ := HP.out.o1.cell1 (i := a) (by have := HL1.out; omega) ho1
              simp only [Value.slice.injEq] at hv1 hv2
              obtain ⟨rfl, -, rfl⟩ := hv1
              obtain ⟨rfl, -, rfl⟩ := hv2
              obtain ⟨A3, c3, rfl, hnc3, hc3⟩ := hr2.form' (marks_len mkB a (ks a + 70))
              obtain ⟨A4, c4, rfl, hnc4, hc4⟩ := hr1.form' (marks_len mkB a (ks a + 1))
              have HBS := Lib.hid hbs
              have HR1 := Lib.hid hr1
              have HR2 := Lib.hid hr2
              have hka := HK.out a han
              obtain ⟨hka1, hka2⟩ := HKC.out a han
              have hcell := HC.out _ HB.out
              have hcell2 := HW.out _ a HB.out han
              clear hbs hr1 hr2 ho1 ho2
              go_wp2_with fail
              go_loopg [11] (ks a + 70) (fun k iv w4 => ∃ i : Nat, i ≤ ks a + 70 ∧ iv = .int .i64 i ∧ k = ks a + 70 - i ∧ w4 = wr)
              case atStart => exact ⟨0, Nat.zero_le _, rfl, rfl, rfl⟩
              case round =>
                obtain ⟨i, hi, rfl, rfl, rfl⟩ := hrel
                by_cases hik : i < ks a + 70
                · obtain ⟨g3, c3', hv3, -, -, hq3⟩ := HR2.out.cell1 (i := i) (by rw [marks_len]; omega) (marks_get mkB a _ i _)
                  simp only [Value.slice.injEq] at hv3
                  obtain ⟨rfl, -, rfl⟩ := hv3
                  simp only [bmark] at hq3
                  rcases Nat.lt_trichotomy i (ks a) with hlt | heq | hgt
                  · obtain ⟨g5, c5, hv5, -, -, hq5⟩ := HBS.out.cell1 (i := i) (by rw [marks_len]; omega) (marks_get mkB a _ i _)
                    rw [HV.out a] at hv5
                    simp only [Value.slice.injEq] at hv5
                    rw [hv5.1] at hcell2
                    simp only [bmark] at hq5
                    have hne : ((i : Int) == (ks a : Int)) = false := by rw [beq_eq_false_iff_ne]; omega
                    have hne2 : (i == ks a) = false := by rw [beq_eq_false_iff_ne]; omega
                    clear hv5
                    go_wp2_with fail
                    go_roundg (ks a + 70 - (i + 1))
                    case measure => omega
                    case rel => exact ⟨i + 1, by omega, by go_num, rfl, rfl⟩
                  · subst heq
                    obtain ⟨g5, c5, hv5, -, -, hq5⟩ := HR1.out.cell1 (i := ks a) (by rw [marks_len]; omega) (marks_get mkB a _ _ _)
                    simp only [Value.slice.injEq] at hv5
                    obtain ⟨rfl, -, rfl⟩ := hv5
                    simp only [bmark] at hq5
                    go_wp2_with fail
                    go_roundg (ks a + 70 - (ks a + 1))
                    case measure => omega
                    case rel => exact ⟨ks a + 1, by omega, by go_num, rfl, rfl⟩
                  · have hne : ((i : Int) == (ks a : Int)) = false := by rw [beq_eq_false_iff_ne]; omega
                    have hne2 : (i == ks a) = false := by rw [beq_eq_false_iff_ne]; omega
                    go_wp2_with fail
                    go_roundg (ks a + 70 - (i + 1))
                    case measure => omega
                    case rel => exact ⟨i + 1, by omega, by go_num, rfl, rfl⟩
                · obtain rfl : i = ks a + 70 := by omega
                  go_wp2_with fail
                  go_roundg (n - (a + 1))
                  case measure => omega
                  case rel => exact ⟨a + 1, by omega, by go_num, rfl, rfl⟩
            · have e0 : n = a := by omega
              subst e0
              go_wp2_with fail
              go_ret
              exact ⟨rfl, HB.out⟩
end
end Go.Proofs.YtncpeogkccjmcaaGreatDoor
