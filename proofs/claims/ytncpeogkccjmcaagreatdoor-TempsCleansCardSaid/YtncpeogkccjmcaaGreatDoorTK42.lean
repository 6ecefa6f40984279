/- Texts that lead to the claim, one behind the other: Rows of texts that share no memory are found so: the walk of (galleyref00.Bag).apartTexts (printed by gen/bagtexts.py). Conditions: rows of the run's own, each in a block of its own; room; the table of powers of ten. -/
import Derived.Test.YtncpeogkccjmcaaGreatDoorProg
import Derived.Test.YtncpeogkccjmcaaGreatDoorTK33
import Derived.Test.YtncpeogkccjmcaaGreatDoorTK38
import Derived.Test.YtncpeogkccjmcaaGreatDoorTK41
import Derived.Deep.RegionWith
import Derived.WalkKit
import Derived.WalkSpells
import Derived.Deep.LoopGhost
import Derived.Deep.QuietTactic
import Derived.BigQuiet
import Derived.Lib.Hide
namespace Go.Proofs.YtncpeogkccjmcaaGreatDoor
open Go.RowKit

section
variable (gb gB cB N : Nat) (As : Nat → Option Addr) (ks cs : Nat → Nat) (w : World) (base : Nat)
def mkT (n i : Nat) : List Value := [.string (tmark n i)]
theorem stRowsT : SliceType Tryz.prog 48 41 1 24 := SliceType.mk' (z := .slice none 0 0) Tryz.underlying48 (by kernel_rfl) rfl (by omega)
set_option maxRecDepth 100000 in
set_option maxHeartbeats 8000000 in
theorem apartTexts_any (hB : w.cell? ⟨gb, 3, none⟩ = some (.slice (some ⟨gB, 0, none⟩) N cB)) (hN : N ≤ 65536) (hNc : N ≤ cB) (hcB : cB ≤ 9223372036854775807)
    (hrow : ∀ m, m < N → w.cell? ⟨gB, m, none⟩ = some (.slice (As m) (ks m) (cs m))) (R : Rows0 1 9 base N (fun m => .slice (As m) (ks m) (cs m)) ks w)
    (hbase : base ≤ w.heap.size) (h1 : ¬ RowB N (fun m => .slice (As m) (ks m) (cs m)) gb) (h2 : ¬ RowB N (fun m => .slice (As m) (ks m) (cs m)) gB) (hk : ∀ m, m < N → ks m ≤ 1099511627776) (hT : ∀ W, Below base w W → Pow W) :
    Calls Tryz.prog 66 #[.pointer (some ⟨gb, 0, none⟩)] w fun e w' => e = .returned (.bool true) ∧ Only (RowB N (fun m => .slice (As m) (ks m) (cs m))) w w' := by
  obtain ⟨vs, hvs⟩ : ∃ vs : Nat → Value, vs = fun m => .slice (As m) (ks m) (cs m) := ⟨_, rfl⟩
  rw [← hvs] at R h1 h2 ⊢
  have hgb : gb < w.heap.size := World.block_lt_of_cell? w _ hB
  have hc0 : ∀ wr, Only (RowB N vs) w wr → wr.cell? ⟨gb, 3, none⟩ = some (.slice (some ⟨gB, 0, none⟩) N cB) := fun wr ho => (World.cell?_of_block (ho.block gb hgb h1)).trans hB
  have hr0 : ∀ wr m, Only (RowB N vs) w wr → m < N → wr.cell? ⟨gB, m, none⟩ = some (.slice (As m) (ks m) (cs m)) := fun wr m ho hm => (World.cell?_of_block (ho.block gB (World.block_lt_of_cell? w _ (hrow m hm)) h2)).trans (hrow m hm)
  have hv : ∀ m, vs m = .slice (As m) (ks m) (cs m) := fun m => by rw [hvs]
  have hkc : ∀ m, m < N → ks m ≤ cs m ∧ cs m ≤ 9223372036854775807 := fun m hm => by
    obtain ⟨l, hl, hown⟩ := R.own m hm
    obtain ⟨_, _, _, he, hl2, hc1, hc2⟩ := hown.form
    rw [hv m] at he
    simp only [Value.slice.injEq] at he
    obtain ⟨-, rfl, rfl⟩ := he
    exact ⟨hc1, hc2⟩
  have hPow : ∀ wr, Only (RowB N vs) w wr → Pow wr := fun wr ho => hT wr (ho.below hbase fun b ⟨m, hm, hb⟩ => by
    obtain ⟨l, -, hl⟩ := R.own m hm
    exact (hl.block_lt hb).1)
  have HT := Lib.hid fun wr ho (a b : Nat) (ha : a ≤ 1048576) (hb : b ≤ 2199023255552) => text_any a b wr ha hb (Lib.hid (hPow wr ho))
  have HR := Lib.hid R
  have HC := Lib.hid hc0
  have HW := Lib.hid hr0
  have HV := Lib.hid hv
  have HK := Lib.hid hk
  have HKC := Lib.hid hkc
  clear hvs R h1 h2 hk hB hrow hc0 hr0 hv hkc hgb hT hPow
  have hcell := HC.out w (Only.refl _ _)
  go_enter Tryz.func66, Tryz.ntmps66
  go_wp2_with fail
  clear hcell
  go_loopg [3] N (fun k iv wr => ∃ n : Nat, n ≤ N ∧ iv = .int .i64 n ∧ k = N - n ∧ Hid (Only (RowB N vs) w wr) ∧ Hid (Ph1 1 9 base N vs ks mkT n 0 wr))
  case atStart => exact ⟨0, Nat.zero_le _, rfl, rfl, Lib.hid (Only.refl _ _), Lib.hid (Ph1.start HR.out)⟩
  case round =>
    obtain ⟨n, hn, rfl, rfl, HO, HP⟩ := hrel
    have hcell := HC.out wr HO.out
    by_cases hnN : n < N
    · have hkn := HK.out n hnN
      obtain ⟨hkn1, hkn2⟩ := HKC.out n hnN
      go_wp2_with fail
      clear hcell
      obtain ⟨wo, rfl⟩ : ∃ wo : World, wo = wr := ⟨_, rfl⟩
      go_loopg [4] (ks n) (fun k iv wr => ∃ i : Nat, i ≤ ks n ∧ iv = .int .i64 i ∧ k = ks n - i ∧ Hid (Only (RowB N vs) w wr) ∧ Hid (Ph1 1 9 base N vs ks mkT n i wr))
      case atStart => exact ⟨0, Nat.zero_le _, rfl, rfl, HO, HP⟩
      case round =>
        obtain ⟨i, hi, rfl, rfl, HO2, HP2⟩ := hrel
        have hcell := HC.out wr HO2.out
        have hcell2 := HW.out wr n HO2.out hnN
        by_cases hik : i < ks n
        · obtain ⟨l, hl1, hown, -, -⟩ := HP2.out n hnN
          have hvn0 := HV.out n
          rw [hvn0] at hown
          obtain ⟨g, hA⟩ := hown.blockAt (by omega)
          rw [hA] at hown hcell2
          have hfz := hown.free i
          obtain ⟨g', c', u, he, -, -, hcu, -, -, -⟩ := hown.cellAt rfl (k := i) (by omega)
          simp only [Value.slice.injEq, Option.some.injEq, Addr.mk.injEq] at he
          obtain ⟨⟨rfl, -⟩, -, -⟩ := he
          have HVS : Hid (vs n = .slice (some ⟨g, 0, none⟩) (ks n) (cs n)) := Lib.hid (by rw [hvn0, hA])
          clear hl1 hown hvn0 hA
          have hfz0 : wr.frozen? ⟨g, i, none⟩ = false := hfz
          have hcell3 : wr.cell? ⟨g, i, none⟩ = some u := hcu
          have HK0 : Hid (Below wr.heap.size wr wr.drew ∧ wr.drew.cell? ⟨gb, 3, none⟩ = some (.slice (some ⟨gB, 0, none⟩) N cB) ∧ wr.drew.cell? ⟨gB, n, none⟩ = some (.slice (some ⟨g, 0, none⟩) (ks n) (cs n)) ∧ wr.drew.frozen? ⟨g, i, none⟩ = false ∧ wr.drew.cell? ⟨g, i, none⟩ = some u) := Lib.hid ⟨⟨rfl, rfl, rfl, Nat.le_refl _, fun _ _ => rfl⟩, hcell, hcell2, hfz0, hcell3⟩
          have HKP : Hid (∀ W W2 : World, (Below wr.heap.size wr W ∧ W.cell? ⟨gb, 3, none⟩ = some (.slice (some ⟨gB, 0, none⟩) N cB) ∧ W.cell? ⟨gB, n, none⟩ = some (.slice (some ⟨g, 0, none⟩) (ks n) (cs n)) ∧ W.frozen? ⟨g, i, none⟩ = false ∧ W.cell? ⟨g, i, none⟩ = some u) → Below W.heap.size W W2 → (Below wr.heap.size wr W2 ∧ W2.cell? ⟨gb, 3, none⟩ = some (.slice (some ⟨gB, 0, none⟩) N cB) ∧ W2.cell? ⟨gB, n, none⟩ = some (.slice (some ⟨g, 0, none⟩) (ks n) (cs n)) ∧ W2.frozen? ⟨g, i, none⟩ = false ∧ W2.cell? ⟨g, i, none⟩ = some u)) :=
            Lib.hid fun W W2 ⟨a0, a1, a2, a3, a4⟩ hb => ⟨a0.trans (hb.mono a0.size), (hb.cell (World.block_lt_of_cell? W _ a1)).trans a1, (hb.cell (World.block_lt_of_cell? W _ a2)).trans a2, (frozen_keep hb (World.block_lt_of_cell? W _ a4)).trans a3, (hb.cell (World.block_lt_of_cell? W _ a4)).trans a4⟩
          have HCL : Hid (∀ W, Below wr.heap.size wr W → Calls Tryz.prog 101 #[.int .i64 n, .int .i64 i] W fun e w' => e = .returned (.string (tmark n i)) ∧ Below W.heap.size W w') := Lib.hid fun W hW => HT.out W (HO2.out.trans (F1 := nob) (Only.of_below hW _) fun _ h => h.elim) n i (by omega) (by omega)
          obtain ⟨tx, htx⟩ : ∃ tx, tx = tmark n i := ⟨_, rfl⟩
          rw [← htx] at HCL
          have HTX := Lib.hid htx
          clear htx
          go_wp2_with fail
          clear hcell hcell2 hcell3 hfz0 hfz hcu
          obtain ⟨c0, c1, c2, c3, c4⟩ := HK0.out
          go_region_with (go_at_call 101; refine (HCL.out wr.drew c0).mono ?_; rintro e w1 ⟨rfl, hb1⟩; obtain ⟨b0, b1, b2, b3, b4⟩ := HKP.out wr.drew w1 HK0.out hb1)
          all_goals
            have HB5 := Lib.hid b0
            clear hb1 b0 b1 b2 b3 b4 c0 c1 c2 c3 c4
            go_wp2_with fail
            go_roundg (ks n - (i + 1))
            case measure => omega
            case rel =>
              refine ⟨i + 1, by omega, by go_num, rfl, Lib.hid ((HO2.out.trans (F1 := nob) (Only.of_below HB5.out _) fun _ h => h.elim).grown (setCell_grown g w1 i _) fun b hb => .inl ⟨n, hnN, by rw [HVS.out, hb]; rfl⟩), Lib.hid ((HP2.out.far HB5.out).step HR.out hnN hik (by rw [HVS.out]; exact setCell_grown g w1 i _) fun l hl ho => ?_)⟩
              rw [HVS.out] at ho ⊢
              rw [HTX.out]
              exact ho.set1 (by omega) rfl
        · obtain rfl : i = ks n := by omega
          go_wp2_with fail
          go_roundg (N - (n + 1))
          case measure => omega
          case rel => exact ⟨n + 1, by omega, by go_num, rfl, HO2, Lib.hid (HP2.out.next (Nat.le_refl _))⟩
    · obtain rfl : n = N := by omega
      have HP1 := Lib.hid (Ph2.start (eS := 41) HO.out HP.out.all)
      clear HP hnN
      go_wp2_with fail
      clear hcell
      obtain ⟨w1, rfl⟩ : ∃ w1 : World, w1 = wr := ⟨_, rfl⟩
      go_loopg [5, 6, 7] n (fun k v1 v2 iv wr => ∃ (m : Nat) (U : Blocks) (L1 L2 : List (List Value)), m ≤ n ∧ iv = .int .i64 m ∧ k = n - m ∧ Hid (Ph2 1 9 41 base n vs ks mkT w wr m m v1 v2 U L1 L2) ∧ Hid (L1.length = m) ∧ Hid (L2.length = m))
      case atStart => exact ⟨0, nob, [], [], Nat.zero_le _, rfl, rfl, HP1, Lib.hid rfl, Lib.hid rfl⟩
      case round =>
        obtain ⟨m, U, L1, L2, hm, rfl, rfl, HP, HL1, HL2⟩ := hrel
        have hcell := HC.out wr HP.out.only
        by_cases hmn : m < n
        · have hcell2 := HW.out wr m HP.out.only hmn
          have hkm := HK.out m hmn
          obtain ⟨hkm1, hkm2⟩ := HKC.out m hmn
          have HI := Lib.hid (In2.start HR.out HP.out hmn HL1.out HL2.out)
          go_wp2_with fail
          clear hcell hcell2
          obtain ⟨w2, rfl⟩ : ∃ w2 : World, w2 = wr := ⟨_, rfl⟩
          rw [HV.out m] at HI
          go_loopg [5, 8, 9] 70 (fun k v1 v iv wr => ∃ (i : Nat) (f : Bool) (L1 : List (List Value)), ks m ≤ i ∧ i ≤ ks m + 70 ∧ iv = .int .i64 i ∧ k = ks m + 70 - i ∧ Hid (f = decide (ks m < i)) ∧ Hid (In2 1 9 41 base n vs ks mkT w wr m i f v v1 u6 U L1 L2))
          case atStart => exact ⟨ks m, false, L1, Nat.le_refl _, by omega, rfl, by omega, Lib.hid (by simp), HI⟩
          case round =>
            obtain ⟨i, f, M1, hi1, hi2, rfl, rfl, HF, HI2⟩ := hrel
            have hcell := HC.out wr HI2.out.p.only
            have hcell2 := HW.out wr m HI2.out.p.only hmn
            by_cases hik : i < ks m + 70
            · by_cases hfst : i = ks m
              · subst hfst
                obtain rfl : f = false := by rw [HF.out]; simp
                have hl1 : M1.length ≤ 65536 := by have := HI2.out.l1; simp at this; omega
                go_wp2_with (first | (go_at_call 101; refine (HT.out wr HI2.out.p.only _ _ (by omega) (by omega)).mono ?_; rintro e wt ⟨rfl, hbt⟩; have HI2t := Lib.hid (HI2.out.far hbt); clear hbt) | (at_builtin; refine wpList_append_OwnFr _ rfl (.tmp 78) (.tmp 82) 41 rfl (Rep.raw 1) base 9 16 stTxt u8 (marks mkT m (ks m)) rfl (HI2t.out.alloc _).cur _ _ _ [mkT m (ks m)] rfl (SliceAt.newOne (Rep.raw 1) _ _ _ _ _ ⟨rfl, rfl, by simp [mkT, Value.oneCell']⟩ (by simp)) (by simp) (fun _ _ h => h) (by rw [marks_len]; simp; omega) (by rw [marks_len]; simp; omega) (by have := HI2t.out.p.only.size; simp; omega) ?_; intro v' w3 hown3 hg3 hat3 hst3; have HI3 := Lib.hid ((HI2t.out.alloc _).grow HR.out hi1 (fun h => by cases h) hown3 hg3 hat3 hst3); obtain ⟨A', n', c', rfl, -, -, -⟩ := hown3.form; have hcell3 := HC.out _ HI3.out.p.only; have hcell4 := HW.out _ m HI3.out.p.only hmn; clear hown3 hg3 hat3 hst3) | (at_builtin; refine wpList_append_Own _ rfl (.tmp 94) (.tmp 96) 48 rfl Rep.val w.heap.size 41 24 stRowsT nob u5 M1 rfl (HI3.out.alloc _).p.o1 _ _ _ [[_]] rfl (SliceAt.newOne Rep.val _ _ _ _ _ ⟨rfl, rfl, by simp [Value.oneCell']⟩ (by simp)) nob (fun _ h => h.elim) (fun _ h => h) (fun _ _ h => h) (by simp; omega) (by simp; omega) (by have := HI3.out.p.only.size; simp; omega) ?_; intro v4 w4 hown4 hg4 hat4; have HI4 := Lib.hid ((HI3.out.alloc _).put1 HR.out hown4 hg4 hat4); clear hown4 hg4 hat4))
                go_roundg (ks m + 70 - (ks m + 1))
                case measure => omega
                case rel => exact ⟨ks m + 1, true, _, by omega, by omega, by go_num, rfl, Lib.hid (by simp), HI4⟩
              · obtain rfl : f = true := by rw [HF.out]; simp; omega
                have hne : ((i : Int) == (ks m : Int)) = false := by rw [beq_eq_false_iff_ne]; omega
                have hne2 : (i == ks m) = false := by rw [beq_eq_false_iff_ne]; omega
                have hgt : ks m < i := by omega
                clear hfst
                go_wp2_with (first | (go_at_call 101; refine (HT.out wr HI2.out.p.only _ _ (by omega) (by omega)).mono ?_; rintro e wt ⟨rfl, hbt⟩; have HI2t := Lib.hid (HI2.out.far hbt); clear hbt) | (at_builtin; refine wpList_append_OwnFr _ rfl (.tmp 78) (.tmp 82) 41 rfl (Rep.raw 1) base 9 16 stTxt u8 (marks mkT m i) rfl (HI2t.out.alloc _).cur _ _ _ [mkT m i] rfl (SliceAt.newOne (Rep.raw 1) _ _ _ _ _ ⟨rfl, rfl, by simp [mkT, Value.oneCell']⟩ (by simp)) (by simp) (fun _ _ h => h) (by rw [marks_len]; simp; omega) (by rw [marks_len]; simp; omega) (by have := HI2t.out.p.only.size; simp; omega) ?_; intro v' w3 hown3 hg3 hat3 hst3; have HI3 := Lib.hid ((HI2t.out.alloc _).grow HR.out hi1 (fun _ => by omega) hown3 hg3 hat3 hst3); obtain ⟨A', n', c', rfl, -, -, -⟩ := hown3.form; have hcell3 := HC.out _ HI3.out.p.only; have hcell4 := HW.out _ m HI3.out.p.only hmn; clear hown3 hg3 hat3 hst3))
                go_roundg (ks m + 70 - (i + 1))
                case measure => omega
                case rel => exact ⟨i + 1, true, _, by omega, by omega, by go_num, rfl, Lib.hid (by simp; omega), HI3⟩
            · obtain rfl : i = ks m + 70 := by omega
              obtain rfl : f = true := by rw [HF.out]; simp
              obtain ⟨A5, n5, c5, rfl, -, -, -⟩ := HI2.out.cur.form
              have hl2 : L2.length ≤ 65536 := by have := HL2.out; omega
              go_wp2_with (at_builtin; refine wpList_append_Own _ rfl (.tmp 98) (.tmp 100) 48 rfl Rep.val w.heap.size 41 24 stRowsT nob u6 L2 rfl (HI2.out.alloc _).p.o2 _ _ _ [[_]] rfl (SliceAt.newOne Rep.val _ _ _ _ _ ⟨rfl, rfl, by simp [Value.oneCell']⟩ (by simp)) nob (fun _ h => h.elim) (fun _ h => h) (fun _ _ h => h) (by simp; omega) (by simp; omega) (by have := HI2.out.p.only.size; simp; omega) ?_; intro v4 w4 hown4 hg4 hat4; have HI4 := Lib.hid ((HI2.out.alloc _).put2 HR.out hown4 hg4 hat4); clear hown4 hg4 hat4)
              go_roundg (n - (m + 1))
              case measure => omega
              case rel => exact ⟨m + 1, _, M1, _, by omega, by go_num, rfl, HI4, Lib.hid (by have := HI2.out.l1; simpa using this), Lib.hid (by have := HL2.out; simp; omega)⟩
        · have e0 : n = m := by omega
          subst e0
          obtain ⟨A1, n1, c1, rfl, hn1, hnc1, hc1⟩ := HP.out.o1.form
          obtain ⟨A2, n2, c2, rfl, hn2, hnc2, hc2⟩ := HP.out.o2.form
          have e1 : n = n1 := by have := hn1.out; have := HL1.out; omega
          have e2 : n = n2 := by have := hn2.out; have := HL2.out; omega
          subst e1
          subst e2
          have HB := Lib.hid HP.out.only
          clear hmn hm
          go_wp2_with fail
          clear hcell
          obtain ⟨w2, rfl⟩ : ∃ w2 : World, w2 = wr := ⟨_, rfl⟩
          go_loopg [10] n (fun k iv w3 => ∃ a : Nat, a ≤ n ∧ iv = .int .i64 a ∧ k = n - a ∧ Hid (Below w2.heap.size w2 w3))
          case atStart => exact ⟨0, Nat.zero_le _, rfl, rfl, Lib.hid (Below.refl _ _)⟩
          case round =>
            obtain ⟨a, ha, rfl, rfl, HBW⟩ := hrel
            by_cases han : a < n
            · obtain ⟨hbs, ⟨o1, ho1, hr1⟩, o2, ho2, hr2⟩ := HP.out.done a han
              obtain ⟨g2, c2', hv2, -, -, hq2⟩ := HP.out.o2.cell1 (i := a) (by have := HL2.out; omega) ho2
              obtain ⟨g1, c1', hv1, -, -, hq1⟩ := HP.out.o1.cell1 (i := a) (by have := HL1.out; omega) ho1
              simp only [Value.slice.injEq] at hv1 hv2
              obtain ⟨rfl, -, rfl⟩ := hv1
              obtain ⟨rfl, -, rfl⟩ := hv2
              obtain ⟨A3, c3, rfl, hnc3, hc3⟩ := hr2.form' (marks_len mkT a (ks a + 70))
              obtain ⟨A4, c4, rfl, hnc4, hc4⟩ := hr1.form' (marks_len mkT a (ks a + 1))
              have hka := HK.out a han
              obtain ⟨hka1, hka2⟩ := HKC.out a han
              have huu : ∀ b, U b → b < w2.heap.size := fun b hb => (HP.out.uu b hb).1
              have honly : ∀ W, Below w2.heap.size w2 W → Only (RowB n vs) w W := fun W hW => HB.out.trans (F1 := nob) (Only.of_below hW _) fun _ h => h.elim
              have HF : Hid (∀ W, Below w2.heap.size w2 W → W.cell? ⟨gb, 3, none⟩ = some (.slice (some ⟨gB, 0, none⟩) n cB) ∧ W.cell? ⟨gB, a, none⟩ = some (.slice (As a) (ks a) (cs a)) ∧ W.cell? ⟨g2, a, none⟩ = some (.slice A3 (ks a + 70) c3) ∧ W.cell? ⟨g1, a, none⟩ = some (.slice A4 (ks a + 1) c4)) := Lib.hid fun W hW =>
                ⟨HC.out W (honly W hW), HW.out W a (honly W hW) han, (hW.cell (World.block_lt_of_cell? w2 _ hq2)).trans hq2, (hW.cell (World.block_lt_of_cell? w2 _ hq1)).trans hq1⟩
              have HE : Hid (∀ W, Below w2.heap.size w2 W → Rd (Rep.raw 1) W U (vs a) (marks mkT a (ks a)) ∧ Rd (Rep.raw 1) W U (.slice A4 (ks a + 1) c4) (marks mkT a (ks a + 1)) ∧ Rd (Rep.raw 1) W U (.slice A3 (ks a + 70) c3) (marks mkT a (ks a + 70))) := Lib.hid fun W hW =>
                ⟨hbs.keep (fun _ h => h) (Same.of_below hW huu), hr1.keep (fun _ h => h) (Same.of_below hW huu), hr2.keep (fun _ h => h) (Same.of_below hW huu)⟩
              clear hbs hr1 hr2 ho1 ho2 hq1 hq2 huu honly
              obtain ⟨f0, f1, f2, f3⟩ := HF.out wr HBW.out
              go_wp2_with fail
              go_loopg [11] (ks a + 70) (fun k iv w4 => ∃ i : Nat, i ≤ ks a + 70 ∧ iv = .int .i64 i ∧ k = ks a + 70 - i ∧ Hid (Below w2.heap.size w2 w4))
              case atStart => exact ⟨0, Nat.zero_le _, rfl, rfl, HBW⟩
              case round =>
                obtain ⟨i, hi, rfl, rfl, HB4⟩ := hrel
                clear f0 f1 f2 f3
                obtain ⟨f0, f1, f2, f3⟩ := HF.out wr HB4.out
                by_cases hik : i < ks a + 70
                · have HTA : Hid (∀ W, Below w2.heap.size w2 W → Calls Tryz.prog 101 #[.int .i64 a, .int .i64 i] W fun e w' => e = .returned (.string (tmark a i)) ∧ Below W.heap.size W w') := Lib.hid fun W hW => HT.out W (HB.out.trans (F1 := nob) (Only.of_below hW _) fun _ h => h.elim) a i (by omega) (by omega)
                  obtain ⟨g3, c3', hv3, -, -, hq3⟩ := (HE.out wr HB4.out).2.2.cells (i := i) (by rw [marks_len]; omega)
                  rw [marks_get] at hq3
                  simp only [Value.slice.injEq] at hv3
                  obtain ⟨rfl, -, rfl⟩ := hv3
                  have p0 : wr.cell? ⟨g3, i, none⟩ = some (.string (tmark a i)) := by have := hq3.one; rwa [Nat.mul_one] at this
                  have hg3l := World.block_lt_of_cell? wr _ p0
                  have HP0 : Hid (∀ W, Below wr.heap.size wr W → W.cell? ⟨g3, i, none⟩ = some (.string (tmark a i))) := Lib.hid fun W hW => (hW.cell hg3l).trans p0
                  clear hq3 hg3l
                  obtain ⟨tx, HTXQ⟩ : ∃ tx, tx = tmark a i := ⟨_, rfl⟩
                  rw [← HTXQ] at p0 HP0 HTA
                  have HTXH := Lib.hid HTXQ
                  clear HTXQ
                  rcases Nat.lt_trichotomy i (ks a) with hlt | heq | hgt
                  · obtain ⟨g5, c5, hv5, -, -, hq5⟩ := (HE.out wr HB4.out).1.cells (i := i) (by rw [marks_len]; omega)
                    rw [marks_get] at hq5
                    rw [HV.out a] at hv5
                    simp only [Value.slice.injEq] at hv5
                    simp only [hv5.1] at f1
                    have q0 : wr.cell? ⟨g5, i, none⟩ = some (.string tx) := by have := hq5.one; rw [Nat.mul_one] at this; rw [this, HTXH.out]
                    have hne : ((i : Int) == (ks a : Int)) = false := by rw [beq_eq_false_iff_ne]; omega
                    have hne2 : (i == ks a) = false := by rw [beq_eq_false_iff_ne]; omega
                    clear hv5 hq5
                    go_wp2_with fail
                    refine (HTA.out wr HB4.out).mono ?_
                    rintro e w5 ⟨rfl, hb5⟩
                    have HB5 := Lib.hid (HB4.out.trans (hb5.mono HB4.out.size))
                    obtain ⟨f0', f1', f2', f3'⟩ := HF.out w5 HB5.out
                    have p0' := HP0.out w5 hb5
                    clear hb5 f0 f1 f2 f3
                    go_wp2_with fail
                    refine (HTA.out w5 HB5.out).mono ?_
                    rintro e w6 ⟨rfl, hb6⟩
                    have HB6 := Lib.hid (HB5.out.trans (hb6.mono HB5.out.size))
                    clear hb6 f0' f1' f2' f3' p0'
                    go_wp2_with fail
                    go_roundg (ks a + 70 - (i + 1))
                    case measure => omega
                    case rel => exact ⟨i + 1, by omega, by go_num, rfl, HB6⟩
                  · subst heq
                    obtain ⟨g5, c5, hv5, -, -, hq5⟩ := (HE.out wr HB4.out).2.1.cells (i := ks a) (by rw [marks_len]; omega)
                    rw [marks_get] at hq5
                    simp only [Value.slice.injEq] at hv5
                    obtain ⟨rfl, -, rfl⟩ := hv5
                    have q0 : wr.cell? ⟨g5, ks a, none⟩ = some (.string tx) := by have := hq5.one; rw [Nat.mul_one] at this; rw [this, HTXH.out]
                    clear hq5
                    go_wp2_with fail
                    refine (HTA.out wr HB4.out).mono ?_
                    rintro e w5 ⟨rfl, hb5⟩
                    have HB5 := Lib.hid (HB4.out.trans (hb5.mono HB4.out.size))
                    obtain ⟨f0', f1', f2', f3'⟩ := HF.out w5 HB5.out
                    have p0' := HP0.out w5 hb5
                    clear hb5 f0 f1 f2 f3
                    go_wp2_with fail
                    refine (HTA.out w5 HB5.out).mono ?_
                    rintro e w6 ⟨rfl, hb6⟩
                    have HB6 := Lib.hid (HB5.out.trans (hb6.mono HB5.out.size))
                    clear hb6 f0' f1' f2' f3' p0'
                    go_wp2_with fail
                    go_roundg (ks a + 70 - (ks a + 1))
                    case measure => omega
                    case rel => exact ⟨ks a + 1, by omega, by go_num, rfl, HB6⟩
                  · have hne : ((i : Int) == (ks a : Int)) = false := by rw [beq_eq_false_iff_ne]; omega
                    have hne2 : (i == ks a) = false := by rw [beq_eq_false_iff_ne]; omega
                    go_wp2_with fail
                    refine (HTA.out wr HB4.out).mono ?_
                    rintro e w5 ⟨rfl, hb5⟩
                    have HB5 := Lib.hid (HB4.out.trans (hb5.mono HB4.out.size))
                    obtain ⟨f0', f1', f2', f3'⟩ := HF.out w5 HB5.out
                    have p0' := HP0.out w5 hb5
                    clear hb5 f0 f1 f2 f3
                    go_wp2_with fail
                    refine (HTA.out w5 HB5.out).mono ?_
                    rintro e w6 ⟨rfl, hb6⟩
                    have HB6 := Lib.hid (HB5.out.trans (hb6.mono HB5.out.size))
                    clear hb6 f0' f1' f2' f3' p0'
                    go_wp2_with fail
                    go_roundg (ks a + 70 - (i + 1))
                    case measure => omega
                    case rel => exact ⟨i + 1, by omega, by go_num, rfl, HB6⟩
                · obtain rfl : i = ks a + 70 := by omega
                  go_wp2_with fail
                  go_roundg (n - (a + 1))
                  case measure => omega
                  case rel => exact ⟨a + 1, by omega, by go_num, rfl, HB4⟩
            · have e0 : n = a := by omega
              subst e0
              go_wp2_with fail
              go_ret
              exact ⟨rfl, HB.out.trans (F1 := nob) (Only.of_below HBW.out _) fun _ h => h.elim⟩
end
end Go.Proofs.YtncpeogkccjmcaaGreatDoor
