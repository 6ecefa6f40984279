/- Rows of parts that share no memory are found so: the walk of (galleyref00.Bag).apartParts (printed by gen/bagparts.py). Conditions: rows of the run's own, each in a block of its own; room; the table of powers of ten. -/
import Derived.Test.YtmjagjcaepbklaaDoorProg
import Derived.Test.YtmjagjcaepbklaaDoorBagMem
import Derived.Test.YtmjagjcaepbklaaDoorBagTexts
import Derived.Test.YtmjagjcaepbklaaDoorEqParts
import Derived.Test.YtmjagjcaepbklaaDoorTexts
import Derived.Deep.RegionWith
import Derived.WalkKit
import Derived.WalkSpells
import Derived.Deep.LoopGhost
import Derived.Deep.QuietTactic
import Derived.BigQuiet
import Derived.Lib.Hide
namespace Go.Proofs.YtmjagjcaepbklaaDoor
open Go.RowKit

section
variable (gb gB cB N : Nat) (As : Nat → Option Addr) (ks cs : Nat → Nat) (w : World) (base : Nat)
def mkPt (n i : Nat) : List Value := [.bool false, .string (tmark n i)]
theorem stRowsPt : SliceType Tryd.prog 55 23 1 24 := SliceType.mk' (z := .slice none 0 0) Tryd.underlying55 (by kernel_rfl) rfl (by omega)
theorem stPartsB : SliceType Tryd.prog 23 38 2 24 := SliceType.mk' (z := .agg #[.bool false, .string ⟨#[]⟩]) Tryd.underlying23 (by kernel_rfl) rfl (by omega)
theorem info_partB : (Tryd.prog.info? 38).map (·.size) = some 2 := by kernel_rfl
set_option maxRecDepth 100000 in
set_option maxHeartbeats 8000000 in
theorem apartParts_any (hB : w.cell? ⟨gb, 12, none⟩ = some (.slice (some ⟨gB, 0, none⟩) N cB)) (hN : N ≤ 65536) (hNc : N ≤ cB) (hcB : cB ≤ 9223372036854775807)
    (hrow : ∀ m, m < N → w.cell? ⟨gB, m, none⟩ = some (.slice (As m) (ks m) (cs m))) (R : Rows0 2 38 base N (fun m => .slice (As m) (ks m) (cs m)) ks w)
    (hbase : base ≤ w.heap.size) (h1 : ¬ RowB N (fun m => .slice (As m) (ks m) (cs m)) gb) (h2 : ¬ RowB N (fun m => .slice (As m) (ks m) (cs m)) gB) (hk : ∀ m, m < N → ks m ≤ 1099511627776) (hT : ∀ W, Below base w W → Pow W) :
    Calls Tryd.prog 47 #[.pointer (some ⟨gb, 0, none⟩)] w fun e w' => e = .returned (.bool true) ∧ Only (RowB N (fun m => .slice (As m) (ks m) (cs m))) w w' := by
  obtain ⟨vs, hvs⟩ : ∃ vs : Nat → Value, vs = fun m => .slice (As m) (ks m) (cs m) := ⟨_, rfl⟩
  rw [← hvs] at R h1 h2 ⊢
  have hgb : gb < w.heap.size := World.block_lt_of_cell? w _ hB
  have hc0 : ∀ wr, Only (RowB N vs) w wr → wr.cell? ⟨gb, 12, none⟩ = some (.slice (some ⟨gB, 0, none⟩) N cB) := fun wr ho => (World.cell?_of_block (ho.block gb hgb h1)).trans hB
  have hr0 : ∀ wr m, Only (RowB N vs) w wr → m < N → wr.cell? ⟨gB, m, none⟩ = some (.slice (As m) (ks m) (cs m)) := fun wr m ho hm => (World.cell?_of_block (ho.block gB (World.block_lt_of_cell? w _ (hrow m hm)) h2)).trans (hrow m hm)
  have hv : ∀ m, vs m = .slice (As m) (ks m) (cs m) := fun m => by rw [hvs]
  have hkc : ∀ m, m < N → ks m ≤ cs m ∧ cs m ≤ 9223372036854775807 := fun m hm => by
    obtain ⟨l, hl, hown⟩ := R.own m hm
    obtain ⟨_, _, _, he, hl2, hc1, hc2⟩ := hown.form
    rw [hv m] at he
    simp only [Value.slice.injEq] at he
    obtain ⟨-, rfl, rfl⟩ := he
    exact ⟨hc1, hc2⟩
  have hPow : ∀ wr, Only (RowB N vs) w wr → Pow wr := fun wr ho => hT wr (ho.below hbase fun b ⟨m, hm, hb⟩ => by
    obtain ⟨l, -, hl⟩ := R.own m hm
    exact (hl.block_lt hb).1)
  have HT := Lib.hid fun wr ho (a b : Nat) (ha : a ≤ 1048576) (hb : b ≤ 2199023255552) => text_any a b wr ha hb (Lib.hid (hPow wr ho))
  have HR := Lib.hid R
  have HC := Lib.hid hc0
  have HW := Lib.hid hr0
  have HV := Lib.hid hv
  have HK := Lib.hid hk
  have HKC := Lib.hid hkc
  clear hvs R h1 h2 hk hB hrow hc0 hr0 hv hkc hgb hT hPow
  have hcell := HC.out w (Only.refl _ _)
  go_enter Tryd.func47, Tryd.ntmps47
  go_wp2_with fail
  clear hcell
  go_loopg [3] N (fun k iv wr => ∃ n : Nat, n ≤ N ∧ iv = .int .i64 n ∧ k = N - n ∧ Hid (Only (RowB N vs) w wr) ∧ Hid (Ph1 2 38 base N vs ks mkPt n 0 wr))
  case atStart => exact ⟨0, Nat.zero_le _, rfl, rfl, Lib.hid (Only.refl _ _), Lib.hid (Ph1.start HR.out)⟩
  case round =>
    obtain ⟨n, hn, rfl, rfl, HO, HP⟩ := hrel
    have hcell := HC.out wr HO.out
    by_cases hnN : n < N
    · have hkn := HK.out n hnN
      obtain ⟨hkn1, hkn2⟩ := HKC.out n hnN
      go_wp2_with fail
      clear hcell
      obtain ⟨wo, rfl⟩ : ∃ wo : World, wo = wr := ⟨_, rfl⟩
      go_loopg [4] (ks n) (fun k iv wr => ∃ i : Nat, i ≤ ks n ∧ iv = .int .i64 i ∧ k = ks n - i ∧ Hid (Only (RowB N vs) w wr) ∧ Hid (Ph1 2 38 base N vs ks mkPt n i wr))
      case atStart => exact ⟨0, Nat.zero_le _, rfl, rfl, HO, HP⟩
      case round =>
        obtain ⟨i, hi, rfl, rfl, HO2, HP2⟩ := hrel
        have hcell := HC.out wr HO2.out
        have hcell2 := HW.out wr n HO2.out hnN
        by_cases hik : i < ks n
        · obtain ⟨l, hl1, hown, -, -⟩ := HP2.out n hnN
          have hvn0 := HV.out n
          rw [hvn0] at hown
          obtain ⟨g, hA⟩ := hown.blockAt (by omega)
          rw [hA] at hown hcell2
          obtain ⟨cs, hcs, hrs⟩ := hown.cells (k := i) (by omega)
          obtain ⟨rfl, hcl, -⟩ := hrs
          obtain ⟨u0, u1, hcl2⟩ : ∃ u0 u1, l[i]'(by omega) = [u0, u1] := by
            match hli : l[i]'(by omega), hcl with
            | [u0, u1], _ => exact ⟨u0, u1, rfl⟩
          rw [hcl2] at hcs
          obtain ⟨hcell3, hcell4⟩ := hcs.two
          rw [show i * (Rep.raw 2).n = i * 2 from rfl] at hcell3 hcell4
          have hfz0 := hown.free (i * 2)
          have hfz1 := hown.free (i * 2 + 1)
          have HVS : Hid (vs n = .slice (some ⟨g, 0, none⟩) (ks n) (cs n)) := Lib.hid (by rw [hvn0, hA])
          clear hcs hcl2 hcl
          clear hl1 hown hvn0 hA
          have HK0 : Hid (Below wr.heap.size wr wr.drew ∧ wr.drew.cell? ⟨gb, 12, none⟩ = some (.slice (some ⟨gB, 0, none⟩) N cB) ∧ wr.drew.cell? ⟨gB, n, none⟩ = some (.slice (some ⟨g, 0, none⟩) (ks n) (cs n)) ∧ wr.drew.frozen? ⟨g, i * 2, none⟩ = false ∧ wr.drew.cell? ⟨g, i * 2, none⟩ = some u0 ∧ wr.drew.frozen? ⟨g, i * 2 + 1, none⟩ = false ∧ wr.drew.cell? ⟨g, i * 2 + 1, none⟩ = some u1) := Lib.hid ⟨⟨rfl, rfl, rfl, Nat.le_refl _, fun _ _ => rfl⟩, hcell, hcell2, hfz0, hcell3, hfz1, hcell4⟩
          have HKP : Hid (∀ W W2 : World, (Below wr.heap.size wr W ∧ W.cell? ⟨gb, 12, none⟩ = some (.slice (some ⟨gB, 0, none⟩) N cB) ∧ W.cell? ⟨gB, n, none⟩ = some (.slice (some ⟨g, 0, none⟩) (ks n) (cs n)) ∧ W.frozen? ⟨g, i * 2, none⟩ = false ∧ W.cell? ⟨g, i * 2, none⟩ = some u0 ∧ W.frozen? ⟨g, i * 2 + 1, none⟩ = false ∧ W.cell? ⟨g, i * 2 + 1, none⟩ = some u1) → Below W.heap.size W W2 → (Below wr.heap.size wr W2 ∧ W2.cell? ⟨gb, 12, none⟩ = some (.slice (some ⟨gB, 0, none⟩) N cB) ∧ W2.cell? ⟨gB, n, none⟩ = some (.slice (some ⟨g, 0, none⟩) (ks n) (cs n)) ∧ W2.frozen? ⟨g, i * 2, none⟩ = false ∧ W2.cell? ⟨g, i * 2, none⟩ = some u0 ∧ W2.frozen? ⟨g, i * 2 + 1, none⟩ = false ∧ W2.cell? ⟨g, i * 2 + 1, none⟩ = some u1)) :=
            Lib.hid fun W W2 ⟨a0, a1, a2, a3, a4, a5, a6⟩ hb => ⟨a0.trans (hb.mono a0.size), (hb.cell (World.block_lt_of_cell? W _ a1)).trans a1, (hb.cell (World.block_lt_of_cell? W _ a2)).trans a2, (frozen_keep hb (World.block_lt_of_cell? W _ a4)).trans a3, (hb.cell (World.block_lt_of_cell? W _ a4)).trans a4, (frozen_keep hb (World.block_lt_of_cell? W _ a6)).trans a5, (hb.cell (World.block_lt_of_cell? W _ a6)).trans a6⟩
          have HCL : Hid (∀ W, Below wr.heap.size wr W → Calls Tryd.prog 31 #[.int .i64 n, .int .i64 i] W fun e w' => e = .returned (.string (tmark n i)) ∧ Below W.heap.size W w') := Lib.hid fun W hW => HT.out W (HO2.out.trans (F1 := nob) (Only.of_below hW _) fun _ h => h.elim) n i (by omega) (by omega)
          obtain ⟨tx, htx⟩ : ∃ tx, tx = tmark n i := ⟨_, rfl⟩
          rw [← htx] at HCL
          have HTX := Lib.hid htx
          clear htx
          go_wp2_with fail
          clear hcell hcell2 hcell3 hcell4 hfz0 hfz1
          obtain ⟨c0, c1, c2, c3, c4, c5, c6⟩ := HK0.out
          go_region_with (first | (go_at_call 31; refine (HCL.out wr.drew c0).mono ?_; rintro e w1 ⟨rfl, hb1⟩; obtain ⟨b0, b1, b2, b3, b4, b5, b6⟩ := HKP.out wr.drew w1 HK0.out hb1))
          all_goals
            have HB5 := Lib.hid b0
            clear hb1 b0 b1 b2 b3 b4 b5 b6 c0 c1 c2 c3 c4 c5 c6
            go_wp2_with fail
            go_roundg (ks n - (i + 1))
            case measure => omega
            case rel =>
              refine ⟨i + 1, by omega, by go_num, rfl, Lib.hid ((HO2.out.trans (F1 := nob) (Only.of_below HB5.out _) fun _ h => h.elim).grown (setCells_grown g [.bool false, .string tx] w1 (i * 2)) fun b hb => .inl ⟨n, hnN, by rw [HVS.out, hb]; rfl⟩), Lib.hid ((HP2.out.far HB5.out).step HR.out hnN hik (by rw [HVS.out]; exact setCells_grown g [.bool false, .string tx] w1 (i * 2)) fun l hl ho => ?_)⟩
              rw [HVS.out] at ho ⊢
              have := ho.setAt (k := i) (zs := mkPt n i) (x := mkPt n i) (by omega) ⟨rfl, rfl, by simp [mkPt, Value.oneCell']⟩
              rw [HTX.out]
              exact this
        · obtain rfl : i = ks n := by omega
          go_wp2_with fail
          go_roundg (N - (n + 1))
          case measure => omega
          case rel => exact ⟨n + 1, by omega, by go_num, rfl, HO2, Lib.hid (HP2.out.next (Nat.le_refl _))⟩
    · obtain rfl : n = N := by omega
      have HP1 := Lib.hid (Ph2.start (eS := 23) HO.out HP.out.all)
      clear HP hnN
      go_wp2_with fail
      clear hcell
      obtain ⟨w1, rfl⟩ : ∃ w1 : World, w1 = wr := ⟨_, rfl⟩
      go_loopg [5, 6, 7] n (fun k v1 v2 iv wr => ∃ (m : Nat) (U : Blocks) (L1 L2 : List (List Value)), m ≤ n ∧ iv = .int .i64 m ∧ k = n - m ∧ Hid (Ph2 2 38 23 base n vs ks mkPt w wr m m v1 v2 U L1 L2) ∧ Hid (L1.length = m) ∧ Hid (L2.length = m))
      case atStart => exact ⟨0, nob, [], [], Nat.zero_le _, rfl, rfl, HP1, Lib.hid rfl, Lib.hid rfl⟩
      case round =>
        obtain ⟨m, U, L1, L2, hm, rfl, rfl, HP, HL1, HL2⟩ := hrel
        have hcell := HC.out wr HP.out.only
        by_cases hmn : m < n
        · have hcell2 := HW.out wr m HP.out.only hmn
          have hkm := HK.out m hmn
          obtain ⟨hkm1, hkm2⟩ := HKC.out m hmn
          have HI := Lib.hid (In2.start HR.out HP.out hmn HL1.out HL2.out)
          go_wp2_with fail
          clear hcell hcell2
          obtain ⟨w2, rfl⟩ : ∃ w2 : World, w2 = wr := ⟨_, rfl⟩
          rw [HV.out m] at HI
          go_loopg [5, 8, 9] 70 (fun k v1 v iv wr => ∃ (i : Nat) (f : Bool) (L1 : List (List Value)), ks m ≤ i ∧ i ≤ ks m + 70 ∧ iv = .int .i64 i ∧ k = ks m + 70 - i ∧ Hid (f = decide (ks m < i)) ∧ Hid (In2 2 38 23 base n vs ks mkPt w wr m i f v v1 u6 U L1 L2))
          case atStart => exact ⟨ks m, false, L1, Nat.le_refl _, by omega, rfl, by omega, Lib.hid (by simp), HI⟩
          case round =>
            obtain ⟨i, f, M1, hi1, hi2, rfl, rfl, HF, HI2⟩ := hrel
            have hcell := HC.out wr HI2.out.p.only
            have hcell2 := HW.out wr m HI2.out.p.only hmn
            by_cases hik : i < ks m + 70
            · by_cases hfst : i = ks m
              · subst hfst
                obtain rfl : f = false := by rw [HF.out]; simp
                have hl1 : M1.length ≤ 65536 := by have := HI2.out.l1; simp at this; omega
                go_wp2_with (first | (go_at_call 31; refine (HT.out wr HI2.out.p.only _ _ (by omega) (by omega)).mono ?_; rintro e wt ⟨rfl, hbt⟩; have HI2t := Lib.hid (HI2.out.far hbt); clear hbt) | (at_builtin; refine wpList_append_OwnFr _ rfl (.tmp 79) (.tmp 84) 23 rfl (Rep.raw 2) base 38 24 stPartsB u8 (marks mkPt m (ks m)) rfl (HI2t.out.alloc _).cur _ _ _ [mkPt m (ks m)] rfl (SliceAt.newOne (Rep.raw 2) _ _ _ _ _ ⟨rfl, rfl, by simp [mkPt, Value.oneCell']⟩ (by simp)) (by simp) (fun _ _ h => h) (by rw [marks_len]; simp; omega) (by rw [marks_len]; simp; omega) (by have := HI2t.out.p.only.size; simp; omega) ?_; intro v' w3 hown3 hg3 hat3 hst3; have HI3 := Lib.hid ((HI2t.out.alloc _).grow HR.out hi1 (fun h => by cases h) hown3 hg3 hat3 hst3); obtain ⟨A', n', c', rfl, -, -, -⟩ := hown3.form; have hcell3 := HC.out _ HI3.out.p.only; have hcell4 := HW.out _ m HI3.out.p.only hmn; clear hown3 hg3 hat3 hst3) | (at_builtin; refine wpList_append_Own _ rfl (.tmp 96) (.tmp 98) 55 rfl Rep.val w.heap.size 23 24 stRowsPt nob u5 M1 rfl (HI3.out.alloc _).p.o1 _ _ _ [[_]] rfl (SliceAt.newOne Rep.val _ _ _ _ _ ⟨rfl, rfl, by simp [Value.oneCell']⟩ (by simp)) nob (fun _ h => h.elim) (fun _ h => h) (fun _ _ h => h) (by simp; omega) (by simp; omega) (by have := HI3.out.p.only.size; simp; omega) ?_; intro v4 w4 hown4 hg4 hat4; have HI4 := Lib.hid ((HI3.out.alloc _).put1 HR.out hown4 hg4 hat4); clear hown4 hg4 hat4))
                go_roundg (ks m + 70 - (ks m + 1))
                case measure => omega
                case rel => exact ⟨ks m + 1, true, _, by omega, by omega, by go_num, rfl, Lib.hid (by simp), HI4⟩
              · obtain rfl : f = true := by rw [HF.out]; simp; omega
                have hne : ((i : Int) == (ks m : Int)) = false := by rw [beq_eq_false_iff_ne]; omega
                have hne2 : (i == ks m) = false := by rw [beq_eq_false_iff_ne]; omega
                have hgt : ks m < i := by omega
                clear hfst
                go_wp2_with (first | (go_at_call 31; refine (HT.out wr HI2.out.p.only _ _ (by omega) (by omega)).mono ?_; rintro e wt ⟨rfl, hbt⟩; have HI2t := Lib.hid (HI2.out.far hbt); clear hbt) | (at_builtin; refine wpList_append_OwnFr _ rfl (.tmp 79) (.tmp 84) 23 rfl (Rep.raw 2) base 38 24 stPartsB u8 (marks mkPt m i) rfl (HI2t.out.alloc _).cur _ _ _ [mkPt m i] rfl (SliceAt.newOne (Rep.raw 2) _ _ _ _ _ ⟨rfl, rfl, by simp [mkPt, Value.oneCell']⟩ (by simp)) (by simp) (fun _ _ h => h) (by rw [marks_len]; simp; omega) (by rw [marks_len]; simp; omega) (by have := HI2t.out.p.only.size; simp; omega) ?_; intro v' w3 hown3 hg3 hat3 hst3; have HI3 := Lib.hid ((HI2t.out.alloc _).grow HR.out hi1 (fun _ => by omega) hown3 hg3 hat3 hst3); obtain ⟨A', n', c', rfl, -, -, -⟩ := hown3.form; have hcell3 := HC.out _ HI3.out.p.only; have hcell4 := HW.out _ m HI3.out.p.only hmn; clear hown3 hg3 hat3 hst3))
                go_roundg (ks m + 70 - (i + 1))
                case measure => omega
                case rel => exact ⟨i + 1, true, _, by omega, by omega, by go_num, rfl, Lib.hid (by simp; omega), HI3⟩
            · obtain rfl : i = ks m + 70 := by omega
              obtain rfl : f = true := by rw [HF.out]; simp
              obtain ⟨A5, n5, c5, rfl, -, -, -⟩ := HI2.out.cur.form
              have hl2 : L2.length ≤ 65536 := by have := HL2.out; omega
              go_wp2_with (at_builtin; refine wpList_append_Own _ rfl (.tmp 100) (.tmp 102) 55 rfl Rep.val w.heap.size 23 24 stRowsPt nob u6 L2 rfl (HI2.out.alloc _).p.o2 _ _ _ [[_]] rfl (SliceAt.newOne Rep.val _ _ _ _ _ ⟨rfl, rfl, by simp [Value.oneCell']⟩ (by simp)) nob (fun _ h => h.elim) (fun _ h => h) (fun _ _ h => h) (by simp; omega) (by simp; omega) (by have := HI2.out.p.only.size; simp; omega) ?_; intro v4 w4 hown4 hg4 hat4; have HI4 := Lib.hid ((HI2.out.alloc _).put2 HR.out hown4 hg4 hat4); clear hown4 hg4 hat4)
              go_roundg (n - (m + 1))
              case measure => omega
              case rel => exact ⟨m + 1, _, M1, _, by omega, by go_num, rfl, HI4, Lib.hid (by have := HI2.out.l1; simpa using this), Lib.hid (by have := HL2.out; simp; omega)⟩
        · have e0 : n = m := by omega
          subst e0
          obtain ⟨A1, n1, c1, rfl, hn1, hnc1, hc1⟩ := HP.out.o1.form
          obtain ⟨A2, n2, c2, rfl, hn2, hnc2, hc2⟩ := HP.out.o2.form
          have e1 : n = n1 := by have := hn1.out; have := HL1.out; omega
          have e2 : n = n2 := by have := hn2.out; have := HL2.out; omega
          subst e1
          subst e2
          have HB := Lib.hid HP.out.only
          clear hmn hm
          go_wp2_with fail
          clear hcell
          obtain ⟨w2, rfl⟩ : ∃ w2 : World, w2 = wr := ⟨_, rfl⟩
          go_loopg [10] n (fun k iv w3 => ∃ a : Nat, a ≤ n ∧ iv = .int .i64 a ∧ k = n - a ∧ Hid (Below w2.heap.size w2 w3))
          case atStart => exact ⟨0, Nat.zero_le _, rfl, rfl, Lib.hid (Below.refl _ _)⟩
          case round =>
            obtain ⟨a, ha, rfl, rfl, HBW⟩ := hrel
            by_cases han : a < n
            · obtain ⟨hbs, ⟨o1, ho1, hr1⟩, o2, ho2, hr2⟩ := HP.out.done a han
              obtain ⟨g2, c2', hv2, -, -, hq2⟩ := HP.out.o2.cell1 (i := a) (by have := HL2.out; omega) ho2
              obtain ⟨g1, c1', hv1, -, -, hq1⟩ := HP.out.o1.cell1 (i := a) (by have := HL1.out; omega) ho1
              simp only [Value.slice.injEq] at hv1 hv2
              obtain ⟨rfl, -, rfl⟩ := hv1
              obtain ⟨rfl, -, rfl⟩ := hv2
              obtain ⟨A3, c3, rfl, hnc3, hc3⟩ := hr2.form' (marks_len mkPt a (ks a + 70))
              obtain ⟨A4, c4, rfl, hnc4, hc4⟩ := hr1.form' (marks_len mkPt a (ks a + 1))
              have hka := HK.out a han
              obtain ⟨hka1, hka2⟩ := HKC.out a han
              have huu : ∀ b, U b → b < w2.heap.size := fun b hb => (HP.out.uu b hb).1
              have honly : ∀ W, Below w2.heap.size w2 W → Only (RowB n vs) w W := fun W hW => HB.out.trans (F1 := nob) (Only.of_below hW _) fun _ h => h.elim
              have HF : Hid (∀ W, Below w2.heap.size w2 W → W.cell? ⟨gb, 12, none⟩ = some (.slice (some ⟨gB, 0, none⟩) n cB) ∧ W.cell? ⟨gB, a, none⟩ = some (.slice (As a) (ks a) (cs a)) ∧ W.cell? ⟨g2, a, none⟩ = some (.slice A3 (ks a + 70) c3) ∧ W.cell? ⟨g1, a, none⟩ = some (.slice A4 (ks a + 1) c4)) := Lib.hid fun W hW =>
                ⟨HC.out W (honly W hW), HW.out W a (honly W hW) han, (hW.cell (World.block_lt_of_cell? w2 _ hq2)).trans hq2, (hW.cell (World.block_lt_of_cell? w2 _ hq1)).trans hq1⟩
              have HE : Hid (∀ W, Below w2.heap.size w2 W → Rd (Rep.raw 2) W U (vs a) (marks mkPt a (ks a)) ∧ Rd (Rep.raw 2) W U (.slice A4 (ks a + 1) c4) (marks mkPt a (ks a + 1)) ∧ Rd (Rep.raw 2) W U (.slice A3 (ks a + 70) c3) (marks mkPt a (ks a + 70))) := Lib.hid fun W hW =>
                ⟨hbs.keep (fun _ h => h) (Same.of_below hW huu), hr1.keep (fun _ h => h) (Same.of_below hW huu), hr2.keep (fun _ h => h) (Same.of_below hW huu)⟩
              clear hbs hr1 hr2 ho1 ho2 hq1 hq2 huu honly
              obtain ⟨f0, f1, f2, f3⟩ := HF.out wr HBW.out
              go_wp2_with fail
              go_loopg [11] (ks a + 70) (fun k iv w4 => ∃ i : Nat, i ≤ ks a + 70 ∧ iv = .int .i64 i ∧ k = ks a + 70 - i ∧ Hid (Below w2.heap.size w2 w4))
              case atStart => exact ⟨0, Nat.zero_le _, rfl, rfl, HBW⟩
              case round =>
                obtain ⟨i, hi, rfl, rfl, HB4⟩ := hrel
                clear f0 f1 f2 f3
                obtain ⟨f0, f1, f2, f3⟩ := HF.out wr HB4.out
                by_cases hik : i < ks a + 70
                · have HTA : Hid (∀ W, Below w2.heap.size w2 W → Calls Tryd.prog 31 #[.int .i64 a, .int .i64 i] W fun e w' => e = .returned (.string (tmark a i)) ∧ Below W.heap.size W w') := Lib.hid fun W hW => HT.out W (HB.out.trans (F1 := nob) (Only.of_below hW _) fun _ h => h.elim) a i (by omega) (by omega)
                  have HBA : Hid (∀ ob, Below w2.heap.size w2 (wr.alloc ob)) := Lib.hid fun ob => HB4.out.alloc HB4.out.size ob
                  have l0 := fun ob => (HF.out _ (HBA.out ob)).1
                  have l1 := fun ob => (HF.out _ (HBA.out ob)).2.1
                  have l2 := fun ob => (HF.out _ (HBA.out ob)).2.2.1
                  have l3 := fun ob => (HF.out _ (HBA.out ob)).2.2.2
                  obtain ⟨g3, c3', hv3, -, -, hq3⟩ := (HE.out wr HB4.out).2.2.cells (i := i) (by rw [marks_len]; omega)
                  rw [marks_get] at hq3
                  simp only [Value.slice.injEq] at hv3
                  obtain ⟨rfl, -, rfl⟩ := hv3
                  obtain ⟨p0, p1⟩ := hq3.two
                  clear hq3
                  obtain ⟨tx, HTXQ⟩ : ∃ tx, tx = tmark a i := ⟨_, rfl⟩
                  rw [← HTXQ] at p1 HTA
                  have HTXH := Lib.hid HTXQ
                  clear HTXQ
                  have hg3l := World.block_lt_of_cell? wr _ p0
                  have HP0 : Hid (∀ W, Below wr.heap.size wr W → W.cell? ⟨g3, i * 2, none⟩ = some (.bool false) ∧ W.cell? ⟨g3, i * 2 + 1, none⟩ = some (.string tx)) := Lib.hid fun W hW => ⟨(hW.cell hg3l).trans p0, (hW.cell (World.block_lt_of_cell? wr _ p1)).trans p1⟩
                  have hal := fun ob => (Below.refl wr.heap.size wr).alloc (Nat.le_refl _) ob
                  have p2 := fun ob => (HP0.out _ (hal ob)).1
                  have p3 := fun ob => (HP0.out _ (hal ob)).2
                  have hdec : decide ((i : Int) < (ks a : Int) + 70) = true := decide_eq_true (by omega)
                  obtain ⟨q, hqq⟩ : ∃ q, q = wr.heap.size := ⟨_, rfl⟩
                  have HQ := Lib.hid hqq
                  clear hqq
                  rcases Nat.lt_trichotomy i (ks a) with hlt | heq | hgt
                  · obtain ⟨g5, c5, hv5, -, -, hq5⟩ := (HE.out wr HB4.out).1.cells (i := i) (by rw [marks_len]; omega)
                    rw [marks_get] at hq5
                    rw [HV.out a] at hv5
                    simp only [Value.slice.injEq] at hv5
                    simp only [hv5.1] at f1 l1
                    obtain ⟨q0, q1⟩ := hq5.two
                    have q2 := fun ob => (Below.cell (hal ob) (World.block_lt_of_cell? wr _ q0)).trans q0
                    have q3 := fun ob => (Below.cell (hal ob) (World.block_lt_of_cell? wr _ q1)).trans q1
                    have hne : ((i : Int) == (ks a : Int)) = false := by rw [beq_eq_false_iff_ne]; omega
                    have hne2 : (i == ks a) = false := by rw [beq_eq_false_iff_ne]; omega
                    clear hv5 hq5
                    rw [← HTXH.out] at q1 q3
                    go_upto_if 155 with fail
                    go_cut [] from 155 to 186 (fun wc => Hid (Below w2.heap.size w2 wc) ∧ Hid (Below wr.heap.size wr wc) ∧ Hid (wc.heap[q]? = some (.cells #[.bool false, .string tx] 38)))
                    case first =>
                      go_wp2_with fail
                      go_meet
                      case rel => exact ⟨Lib.hid (HBA.out _), Lib.hid (hal _), Lib.hid (by rw [HQ.out]; exact heap_alloc_new _ _)⟩
                    case rest =>
                      obtain ⟨wb, hwb⟩ : ∃ W : World, W = wc := ⟨_, rfl⟩
                      rw [← hwb] at hcut ⊢
                      clear hwb
                      obtain ⟨HC1, HC2, HC3⟩ := hcut
                      rw [← HQ.out]
                      clear f0 f1 f2 f3 l0 l1 l2 l3 p0 p1 p2 p3 hal q0 q1 q2 q3
                      have x0 : wb.cell? ⟨q, 0, none⟩ = some (.bool false) := cell_of_row wb q 0 _ _ (0, 0) HC3.out
                      have x1 : wb.cell? ⟨q, 1, none⟩ = some (.string tx) := cell_of_row wb q 1 _ _ (0, 0) HC3.out
                      have d0 : wb.drew.cell? ⟨q, 0, none⟩ = some (.bool false) := x0
                      have d1 : wb.drew.cell? ⟨q, 1, none⟩ = some (.string tx) := x1
                      go_wp2_with fail
                      go_cut [13] from 163 to 186 (fun v wc => v = .bool true ∧ Hid (Below wb.heap.size wb wc))
                      case first =>
                        go_region_with (first | (go_at_call 31; refine (HTA.out wb.drew (below_drew1 HC1.out)).mono ?_; rintro e w5 ⟨rfl, hb5⟩; have y0 := (hb5.cell (World.block_lt_of_cell? wb.drew _ d0)).trans d0; have y1 := (hb5.cell (World.block_lt_of_cell? wb.drew _ d1)).trans d1))
                        all_goals
                          have HB5 : Hid (Below wb.heap.size wb w5) := Lib.hid (Below.trans (below_drew1 (Below.refl _ wb)) hb5)
                          go_wp2_with fail
                          go_meet
                          case rel => exact ⟨rfl, HB5⟩
                      case rest =>
                        obtain ⟨wd, hwd⟩ : ∃ W : World, W = wc := ⟨_, rfl⟩
                        rw [← hwd] at hcut ⊢
                        clear hwd
                        obtain ⟨rfl, HD1⟩ := hcut
                        clear x0 x1 d0 d1
                        have HD2 := Lib.hid (HC1.out.trans (HD1.out.mono HC1.out.size))
                        have HD4 := Lib.hid (HC2.out.trans (HD1.out.mono HC2.out.size))
                        have HD3 := Lib.hid ((HD1.out.block q (Array.getElem?_eq_some_iff.1 HC3.out).1).trans HC3.out)
                        have x0 : wd.cell? ⟨q, 0, none⟩ = some (.bool false) := cell_of_row wd q 0 _ _ (0, 0) HD3.out
                        have x1 : wd.cell? ⟨q, 1, none⟩ = some (.string tx) := cell_of_row wd q 1 _ _ (0, 0) HD3.out
                        have z0 : wd.frozen? ⟨q, 0, none⟩ = false := by simp [World.frozen?, HD3.out]
                        have z1 : wd.frozen? ⟨q, 1, none⟩ = false := by simp [World.frozen?, HD3.out]
                        obtain ⟨f0, f1, f2, f3⟩ := HF.out wd HD2.out
                        obtain ⟨p0, p1⟩ := HP0.out wd HD4.out
                        go_upto_region 32 with fail
                        go_cut [] from 169 to 186 (fun wc => Hid (Below w2.heap.size w2 wc) ∧ Hid (wc.heap[q]? = some (.cells #[.bool false, .string tx] 38)))
                        case first =>
                          go_wp2_with fail
                          go_meet
                          case rel => exact ⟨Lib.hid ((HD2.out.setCell (by rw [HQ.out]; exact HB4.out.size) _).setCell (by rw [HQ.out]; exact HB4.out.size) _), Lib.hid (by simp [World.setCell, Array.getElem?_modify, HD3.out])⟩
                        case rest =>
                          obtain ⟨we, hwe⟩ : ∃ W : World, W = wc := ⟨_, rfl⟩
                          rw [← hwe] at hcut ⊢
                          clear hwe
                          obtain ⟨HE1, HE3⟩ := hcut
                          clear f0 f1 f2 f3 x0 x1 z0 z1 p0 p1
                          have x0 : we.cell? ⟨q, 0, none⟩ = some (.bool false) := cell_of_row we q 0 _ _ (0, 0) HE3.out
                          have x1 : we.cell? ⟨q, 1, none⟩ = some (.string tx) := cell_of_row we q 1 _ _ (0, 0) HE3.out
                          have d0 : we.drew.cell? ⟨q, 0, none⟩ = some (.bool false) := x0
                          have d1 : we.drew.cell? ⟨q, 1, none⟩ = some (.string tx) := x1
                          go_wp2_with fail
                          go_cut [186] from 176 to 186 (fun v wc => v = .bool false ∧ Hid (Below w2.heap.size w2 wc))
                          case first =>
                            go_region_with (first | (go_at_call 31; refine (HTA.out we.drew (below_drew1 HE1.out)).mono ?_; rintro e w5 ⟨rfl, hb5⟩; have y0 := (hb5.cell (World.block_lt_of_cell? we.drew _ d0)).trans d0; have y1 := (hb5.cell (World.block_lt_of_cell? we.drew _ d1)).trans d1))
                            all_goals
                              have HB5 : Hid (Below w2.heap.size w2 w5) := Lib.hid (HE1.out.trans ((Below.trans (below_drew1 (Below.refl _ we)) hb5).mono HE1.out.size))
                              go_wp2_with fail
                              go_meet
                              case rel => exact ⟨rfl, HB5⟩
                          case rest =>
                            obtain ⟨rfl, HG1⟩ := hcut
                            clear x0 x1 d0 d1
                            go_wp2_with fail
                            go_roundg (ks a + 70 - (i + 1))
                            case measure => omega
                            case rel => exact ⟨i + 1, by omega, by go_num, rfl, HG1⟩
                  · subst heq
                    obtain ⟨g5, c5, hv5, -, -, hq5⟩ := (HE.out wr HB4.out).2.1.cells (i := ks a) (by rw [marks_len]; omega)
                    rw [marks_get] at hq5
                    simp only [Value.slice.injEq] at hv5
                    obtain ⟨rfl, -, rfl⟩ := hv5
                    obtain ⟨q0, q1⟩ := hq5.two
                    have q2 := fun ob => (Below.cell (hal ob) (World.block_lt_of_cell? wr _ q0)).trans q0
                    have q3 := fun ob => (Below.cell (hal ob) (World.block_lt_of_cell? wr _ q1)).trans q1
                    clear hq5
                    rw [← HTXH.out] at q1 q3
                    go_upto_if 155 with fail
                    go_cut [] from 155 to 186 (fun wc => Hid (Below w2.heap.size w2 wc) ∧ Hid (Below wr.heap.size wr wc) ∧ Hid (wc.heap[q]? = some (.cells #[.bool false, .string tx] 38)))
                    case first =>
                      go_wp2_with fail
                      go_meet
                      case rel => exact ⟨Lib.hid (HBA.out _), Lib.hid (hal _), Lib.hid (by rw [HQ.out]; exact heap_alloc_new _ _)⟩
                    case rest =>
                      obtain ⟨wb, hwb⟩ : ∃ W : World, W = wc := ⟨_, rfl⟩
                      rw [← hwb] at hcut ⊢
                      clear hwb
                      obtain ⟨HC1, HC2, HC3⟩ := hcut
                      rw [← HQ.out]
                      clear f0 f1 f2 f3 l0 l1 l2 l3 p0 p1 p2 p3 hal q0 q1 q2 q3
                      have x0 : wb.cell? ⟨q, 0, none⟩ = some (.bool false) := cell_of_row wb q 0 _ _ (0, 0) HC3.out
                      have x1 : wb.cell? ⟨q, 1, none⟩ = some (.string tx) := cell_of_row wb q 1 _ _ (0, 0) HC3.out
                      have d0 : wb.drew.cell? ⟨q, 0, none⟩ = some (.bool false) := x0
                      have d1 : wb.drew.cell? ⟨q, 1, none⟩ = some (.string tx) := x1
                      go_wp2_with fail
                      go_cut [13] from 163 to 186 (fun v wc => v = .bool true ∧ Hid (Below wb.heap.size wb wc))
                      case first =>
                        go_region_with (first | (go_at_call 31; refine (HTA.out wb.drew (below_drew1 HC1.out)).mono ?_; rintro e w5 ⟨rfl, hb5⟩; have y0 := (hb5.cell (World.block_lt_of_cell? wb.drew _ d0)).trans d0; have y1 := (hb5.cell (World.block_lt_of_cell? wb.drew _ d1)).trans d1))
                        all_goals
                          have HB5 : Hid (Below wb.heap.size wb w5) := Lib.hid (Below.trans (below_drew1 (Below.refl _ wb)) hb5)
                          go_wp2_with fail
                          go_meet
                          case rel => exact ⟨rfl, HB5⟩
                      case rest =>
                        obtain ⟨wd, hwd⟩ : ∃ W : World, W = wc := ⟨_, rfl⟩
                        rw [← hwd] at hcut ⊢
                        clear hwd
                        obtain ⟨rfl, HD1⟩ := hcut
                        clear x0 x1 d0 d1
                        have HD2 := Lib.hid (HC1.out.trans (HD1.out.mono HC1.out.size))
                        have HD4 := Lib.hid (HC2.out.trans (HD1.out.mono HC2.out.size))
                        have HD3 := Lib.hid ((HD1.out.block q (Array.getElem?_eq_some_iff.1 HC3.out).1).trans HC3.out)
                        have x0 : wd.cell? ⟨q, 0, none⟩ = some (.bool false) := cell_of_row wd q 0 _ _ (0, 0) HD3.out
                        have x1 : wd.cell? ⟨q, 1, none⟩ = some (.string tx) := cell_of_row wd q 1 _ _ (0, 0) HD3.out
                        have z0 : wd.frozen? ⟨q, 0, none⟩ = false := by simp [World.frozen?, HD3.out]
                        have z1 : wd.frozen? ⟨q, 1, none⟩ = false := by simp [World.frozen?, HD3.out]
                        obtain ⟨f0, f1, f2, f3⟩ := HF.out wd HD2.out
                        obtain ⟨p0, p1⟩ := HP0.out wd HD4.out
                        go_upto_region 32 with fail
                        go_cut [] from 169 to 186 (fun wc => Hid (Below w2.heap.size w2 wc) ∧ Hid (wc.heap[q]? = some (.cells #[.bool false, .string tx] 38)))
                        case first =>
                          go_wp2_with fail
                          go_meet
                          case rel => exact ⟨Lib.hid ((HD2.out.setCell (by rw [HQ.out]; exact HB4.out.size) _).setCell (by rw [HQ.out]; exact HB4.out.size) _), Lib.hid (by simp [World.setCell, Array.getElem?_modify, HD3.out])⟩
                        case rest =>
                          obtain ⟨we, hwe⟩ : ∃ W : World, W = wc := ⟨_, rfl⟩
                          rw [← hwe] at hcut ⊢
                          clear hwe
                          obtain ⟨HE1, HE3⟩ := hcut
                          clear f0 f1 f2 f3 x0 x1 z0 z1 p0 p1
                          have x0 : we.cell? ⟨q, 0, none⟩ = some (.bool false) := cell_of_row we q 0 _ _ (0, 0) HE3.out
                          have x1 : we.cell? ⟨q, 1, none⟩ = some (.string tx) := cell_of_row we q 1 _ _ (0, 0) HE3.out
                          have d0 : we.drew.cell? ⟨q, 0, none⟩ = some (.bool false) := x0
                          have d1 : we.drew.cell? ⟨q, 1, none⟩ = some (.string tx) := x1
                          go_wp2_with fail
                          go_cut [186] from 176 to 186 (fun v wc => v = .bool false ∧ Hid (Below w2.heap.size w2 wc))
                          case first =>
                            go_region_with (first | (go_at_call 31; refine (HTA.out we.drew (below_drew1 HE1.out)).mono ?_; rintro e w5 ⟨rfl, hb5⟩; have y0 := (hb5.cell (World.block_lt_of_cell? we.drew _ d0)).trans d0; have y1 := (hb5.cell (World.block_lt_of_cell? we.drew _ d1)).trans d1))
                            all_goals
                              have HB5 : Hid (Below w2.heap.size w2 w5) := Lib.hid (HE1.out.trans ((Below.trans (below_drew1 (Below.refl _ we)) hb5).mono HE1.out.size))
                              go_wp2_with fail
                              go_meet
                              case rel => exact ⟨rfl, HB5⟩
                          case rest =>
                            obtain ⟨rfl, HG1⟩ := hcut
                            clear x0 x1 d0 d1
                            go_wp2_with fail
                            go_roundg (ks a + 70 - (ks a + 1))
                            case measure => omega
                            case rel => exact ⟨ks a + 1, by omega, by go_num, rfl, HG1⟩
                  · have hdec2 : decide (i < ks a) = false := decide_eq_false (by omega)
                    have hne : ((i : Int) == (ks a : Int)) = false := by rw [beq_eq_false_iff_ne]; omega
                    have hne2 : (i == ks a) = false := by rw [beq_eq_false_iff_ne]; omega
                    go_upto_if 155 with fail
                    go_cut [] from 155 to 186 (fun wc => Hid (Below w2.heap.size w2 wc) ∧ Hid (Below wr.heap.size wr wc) ∧ Hid (wc.heap[q]? = some (.cells #[.bool false, .string tx] 38)))
                    case first =>
                      go_wp2_with fail
                      go_meet
                      case rel => exact ⟨Lib.hid (HBA.out _), Lib.hid (hal _), Lib.hid (by rw [HQ.out]; exact heap_alloc_new _ _)⟩
                    case rest =>
                      obtain ⟨wb, hwb⟩ : ∃ W : World, W = wc := ⟨_, rfl⟩
                      rw [← hwb] at hcut ⊢
                      clear hwb
                      obtain ⟨HC1, HC2, HC3⟩ := hcut
                      rw [← HQ.out]
                      clear f0 f1 f2 f3 l0 l1 l2 l3 p0 p1 p2 p3 hal 
                      have x0 : wb.cell? ⟨q, 0, none⟩ = some (.bool false) := cell_of_row wb q 0 _ _ (0, 0) HC3.out
                      have x1 : wb.cell? ⟨q, 1, none⟩ = some (.string tx) := cell_of_row wb q 1 _ _ (0, 0) HC3.out
                      have d0 : wb.drew.cell? ⟨q, 0, none⟩ = some (.bool false) := x0
                      have d1 : wb.drew.cell? ⟨q, 1, none⟩ = some (.string tx) := x1
                      go_wp2_with fail
                      go_cut [13] from 163 to 186 (fun v wc => v = .bool true ∧ Hid (Below wb.heap.size wb wc))
                      case first =>
                        go_region_with (first | (go_at_call 31; refine (HTA.out wb.drew (below_drew1 HC1.out)).mono ?_; rintro e w5 ⟨rfl, hb5⟩; have y0 := (hb5.cell (World.block_lt_of_cell? wb.drew _ d0)).trans d0; have y1 := (hb5.cell (World.block_lt_of_cell? wb.drew _ d1)).trans d1))
                        all_goals
                          have HB5 : Hid (Below wb.heap.size wb w5) := Lib.hid (Below.trans (below_drew1 (Below.refl _ wb)) hb5)
                          go_wp2_with fail
                          go_meet
                          case rel => exact ⟨rfl, HB5⟩
                      case rest =>
                        obtain ⟨wd, hwd⟩ : ∃ W : World, W = wc := ⟨_, rfl⟩
                        rw [← hwd] at hcut ⊢
                        clear hwd
                        obtain ⟨rfl, HD1⟩ := hcut
                        clear x0 x1 d0 d1
                        have HD2 := Lib.hid (HC1.out.trans (HD1.out.mono HC1.out.size))
                        have HD4 := Lib.hid (HC2.out.trans (HD1.out.mono HC2.out.size))
                        have HD3 := Lib.hid ((HD1.out.block q (Array.getElem?_eq_some_iff.1 HC3.out).1).trans HC3.out)
                        have x0 : wd.cell? ⟨q, 0, none⟩ = some (.bool false) := cell_of_row wd q 0 _ _ (0, 0) HD3.out
                        have x1 : wd.cell? ⟨q, 1, none⟩ = some (.string tx) := cell_of_row wd q 1 _ _ (0, 0) HD3.out
                        have z0 : wd.frozen? ⟨q, 0, none⟩ = false := by simp [World.frozen?, HD3.out]
                        have z1 : wd.frozen? ⟨q, 1, none⟩ = false := by simp [World.frozen?, HD3.out]
                        obtain ⟨f0, f1, f2, f3⟩ := HF.out wd HD2.out
                        obtain ⟨p0, p1⟩ := HP0.out wd HD4.out
                        go_upto_region 32 with fail
                        go_cut [] from 169 to 186 (fun wc => Hid (Below w2.heap.size w2 wc) ∧ Hid (wc.heap[q]? = some (.cells #[.bool false, .string tx] 38)))
                        case first =>
                          go_wp2_with fail
                          go_meet
                          case rel => exact ⟨Lib.hid ((HD2.out.setCell (by rw [HQ.out]; exact HB4.out.size) _).setCell (by rw [HQ.out]; exact HB4.out.size) _), Lib.hid (by simp [World.setCell, Array.getElem?_modify, HD3.out])⟩
                        case rest =>
                          obtain ⟨we, hwe⟩ : ∃ W : World, W = wc := ⟨_, rfl⟩
                          rw [← hwe] at hcut ⊢
                          clear hwe
                          obtain ⟨HE1, HE3⟩ := hcut
                          clear f0 f1 f2 f3 x0 x1 z0 z1 p0 p1
                          have x0 : we.cell? ⟨q, 0, none⟩ = some (.bool false) := cell_of_row we q 0 _ _ (0, 0) HE3.out
                          have x1 : we.cell? ⟨q, 1, none⟩ = some (.string tx) := cell_of_row we q 1 _ _ (0, 0) HE3.out
                          have d0 : we.drew.cell? ⟨q, 0, none⟩ = some (.bool false) := x0
                          have d1 : we.drew.cell? ⟨q, 1, none⟩ = some (.string tx) := x1
                          go_wp2_with fail
                          go_cut [186] from 176 to 186 (fun v wc => v = .bool false ∧ Hid (Below w2.heap.size w2 wc))
                          case first =>
                            go_region_with (first | (go_at_call 31; refine (HTA.out we.drew (below_drew1 HE1.out)).mono ?_; rintro e w5 ⟨rfl, hb5⟩; have y0 := (hb5.cell (World.block_lt_of_cell? we.drew _ d0)).trans d0; have y1 := (hb5.cell (World.block_lt_of_cell? we.drew _ d1)).trans d1))
                            all_goals
                              have HB5 : Hid (Below w2.heap.size w2 w5) := Lib.hid (HE1.out.trans ((Below.trans (below_drew1 (Below.refl _ we)) hb5).mono HE1.out.size))
                              go_wp2_with fail
                              go_meet
                              case rel => exact ⟨rfl, HB5⟩
                          case rest =>
                            obtain ⟨rfl, HG1⟩ := hcut
                            clear x0 x1 d0 d1
                            go_wp2_with fail
                            go_roundg (ks a + 70 - (i + 1))
                            case measure => omega
                            case rel => exact ⟨i + 1, by omega, by go_num, rfl, HG1⟩
                · obtain rfl : i = ks a + 70 := by omega
                  go_wp2_with fail
                  go_roundg (n - (a + 1))
                  case measure => omega
                  case rel => exact ⟨a + 1, by omega, by go_num, rfl, HB4⟩
            · have e0 : n = a := by omega
              subst e0
              go_wp2_with fail
              go_ret
              exact ⟨rfl, HB.out.trans (F1 := nob) (Only.of_below HBW.out _) fun _ h => h.elim⟩
end
end Go.Proofs.YtmjagjcaepbklaaDoor
