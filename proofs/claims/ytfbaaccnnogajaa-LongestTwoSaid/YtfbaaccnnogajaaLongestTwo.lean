/- The walk of the law LongestTwo. Conditions: room. -/
import Derived.Test.YtfbaaccnnogajaaProg
import Derived.Test.YtfbaaccnnogajaaLS2
namespace Go.Proofs.Ytfbaaccnnogajaa
open Go.RowKit

theorem stRows : SliceType Try.prog 71 38 1 24 := SliceType.mk' (z := .slice none 0 0) Try.underlying71 (by kernel_rfl) rfl (by omega)
section
variable (A B C : Option Addr) (na ca nb cb nt ct : Nat) (Ma Mb : List Instr) (L : List (List UInt8)) (w : World)
set_option maxRecDepth 100000 in
set_option maxHeartbeats 1000000 in
theorem longestTwo_1 (ha : na ≤ 4611686018427387903) (hb : nb ≤ 4611686018427387903) (h : 2147483647 < na + nb ∨ 2147483647 < nt) : Calls Try.prog 8 #[.slice A na ca, .slice B nb cb, .slice C nt ct] w fun e w' => e = .returned (.bool true) ∧ Below w.heap.size w w' := by
  by_cases h1 : 2147483647 < na + nb
  · have hl := fun W => long_yes (na + nb) W h1
    rw [show ((na + nb : Nat) : Int) = (na : Int) + nb by omega] at hl
    have HL := Lib.hid hl
    clear h hl
    go_enter Try.func8, Try.ntmps8
    go_wp2_with fail
    refine (HL.out _).mono ?_
    rintro e w' ⟨rfl, rfl⟩
    go_wp2_with fail
    go_ret
    exact ⟨rfl, Below.refl _ _⟩
  · have h2 : 2147483647 < nt := by omega
    have hl := fun W => long_no (na + nb) W (by omega)
    rw [show ((na + nb : Nat) : Int) = (na : Int) + nb by omega] at hl
    have HL := Lib.hid hl
    clear h h1 hl
    go_enter Try.func8, Try.ntmps8
    go_wp2_with fail
    refine (HL.out _).mono ?_
    rintro e w' ⟨rfl, rfl⟩
    go_wp2_with fail
    refine (long_yes _ _ h2).mono ?_
    rintro e w' ⟨rfl, rfl⟩
    go_wp2_with fail
    go_ret
    exact ⟨rfl, Below.refl _ _⟩
variable (h1 : na + nb ≤ 2147483647) (h2 : nt ≤ 2147483647) (hna : Hid (na = Ma.length)) (hnb : Hid (nb = Mb.length)) (hnt : Hid (nt = L.length)) (ha : Hid (SliceAt Rep.instr w (under w.heap.size) A ca Ma)) (hb : Hid (SliceAt Rep.instr w (under w.heap.size) B cb Mb)) (ht : Hid (SliceAt Rep.byte.slice w (under w.heap.size) C ct L)) (htc : nt ≤ ct) (htc2 : ct ≤ 9223372036854775807)
include h1 h2 hna hnb hnt ha hb ht htc htc2
set_option maxRecDepth 100000 in
set_option maxHeartbeats 8000000 in
theorem longestTwo_2 : Calls Try.prog 8 #[.slice A na ca, .slice B nb cb, .slice C nt ct] w fun e w' => e = .returned (.bool true) ∧ Below w.heap.size w w' := by
  have hl := fun W => long_no (na + nb) W h1
  rw [show ((na + nb : Nat) : Int) = (na : Int) + nb by omega] at hl
  have HL := Lib.hid hl
  clear hl
  go_enter Try.func8, Try.ntmps8
  go_wp2_with fail
  refine (HL.out _).mono ?_
  rintro e w' ⟨rfl, rfl⟩
  go_wp2_with fail
  refine (long_no _ _ h2).mono ?_
  rintro e w' ⟨rfl, rfl⟩
  go_wp2_with fail
  go_loopg [7] nt (fun k iv wr => ∃ i : Nat, i ≤ nt ∧ iv = .int .i64 i ∧ k = nt - i ∧ wr = w ∧ Hid (∀ j (hj : j < L.length), j < i → ¬ Heavy ((j + 1) * (na + nb)) L[j].length))
  case atStart => exact ⟨0, Nat.zero_le _, rfl, rfl, rfl, Lib.hid fun _ _ h => absurd h (by omega)⟩
  case round =>
    obtain ⟨i, hi, rfl, rfl, hwr, hall⟩ := hrel
    subst hwr
    by_cases hin : i < nt
    · have hil : i < L.length := by have := hnt.out; omega
      obtain ⟨g, o, A', c', rfl, hSg, hcell, hrow⟩ := rowAt ht.out hil
      obtain ⟨q, hq⟩ : ∃ q, q = (i + 1) * (na + nb) := ⟨_, rfl⟩
      have hqi : ((i : Int) + 1) * ((na : Int) + nb) = q := by rw [hq, Int.natCast_mul]; rfl
      have hq1 : q ≤ 2147483648 * 2147483647 := by rw [hq]; exact Nat.mul_le_mul (by omega) h1
      obtain ⟨ni, hni⟩ : ∃ ni, ni = L[i].length := ⟨_, rfl⟩
      rw [← hni] at hcell
      have hhv := fun W => heavy_any q ni W
      by_cases hv : Heavy q ni
      · have HH : Hid (∀ W, Calls Try.prog 20 #[.int .i64 q, .int .i64 ni] W fun e w' => e = .returned (.bool true) ∧ W = w') := Lib.hid fun W => (hhv W).mono fun _ _ ⟨a, b⟩ => ⟨by rw [a, decide_eq_true hv], b.symm⟩
        clear hhv hrow hq hni hv
        go_wp2_with fail
        refine (HH.out _).mono ?_
        rintro e w' ⟨rfl, rfl⟩
        go_wp2_with fail
        refine (works_any _).mono ?_
        rintro e w' ⟨rfl, hb2⟩
        go_wp2_with fail
        go_ret
        exact ⟨rfl, hb2⟩
      · have HH : Hid (∀ W, Calls Try.prog 20 #[.int .i64 q, .int .i64 ni] W fun e w' => e = .returned (.bool false) ∧ W = w') := Lib.hid fun W => (hhv W).mono fun _ _ ⟨a, b⟩ => ⟨by rw [a, decide_eq_false hv], b.symm⟩
        have HV : Hid (¬ Heavy ((i + 1) * (na + nb)) L[i].length) := Lib.hid (by rw [← hq, ← hni]; exact hv)
        clear hhv hrow hq hni hv
        go_wp2_with fail
        refine (HH.out _).mono ?_
        rintro e w' ⟨rfl, rfl⟩
        go_wp2_with fail
        go_roundg (nt - (i + 1))
        case measure => omega
        case rel =>
          refine ⟨i + 1, by omega, by go_num, rfl, rfl, Lib.hid fun j hj hji => ?_⟩
          rcases Nat.lt_or_ge j i with h | h
          · exact hall.out j hj h
          · obtain rfl : j = i := by omega
            exact HV.out
    · obtain rfl : i = nt := by omega
      obtain ⟨wb, hwb⟩ : ∃ wb : World, wb = wr := ⟨_, rfl⟩
      subst hwb
      by_cases hMa : MShaped Ma
      · by_cases hMb : MShaped Mb
        · have HMA := Lib.hid hMa
          have HMB := Lib.hid hMb
          clear hMa hMb
          go_wp2_with fail
          refine (copyInstrs' A na ca Ma _ _ hna.out ha.out (by omega)).mono ?_
          rintro e w1 ⟨A1, c1, rfl, -, HN1, -⟩
          go_wp2_with fail
          refine (HN1.out HMA.out).mono ?_
          rintro e w2 ⟨gs, Fs, rfl, hls⟩
          have HLS := Lib.hid hls
          have HB2 := Lib.hid hls.b
          have HBT := Lib.hid (hb.out.keep (fun _ h => h) (Same.of_below HB2.out (fun _ h => h)))
          clear hls
          go_wp2_with fail
          refine (copyInstrs' B nb cb Mb w2 _ hnb.out HBT.out (by omega)).mono ?_
          rintro e w3 ⟨A3, c3, rfl, HB3, HN3, -⟩
          go_wp2_with fail
          refine (HN3.out HMB.out).mono ?_
          rintro e w4 ⟨gt, Ft, rfl, hlt⟩
          have HLT := Lib.hid hlt
          have HB4 := Lib.hid (HB2.out.trans (hlt.b.mono HB2.out.size))
          have HAT := Lib.hid (ha.out.keep (fun _ h => h) (Same.of_below HB4.out (fun _ h => h)))
          clear hlt
          go_wp2_with fail
          refine (copyInstrs' A na ca Ma w4 _ hna.out HAT.out (by omega)).mono ?_
          rintro e w5 ⟨A5, c5, rfl, -, HN5, -⟩
          go_wp2_with fail
          refine (HN5.out HMA.out).mono ?_
          rintro e w6 ⟨gu, Fu, rfl, hlu⟩
          have htri : Tri wb w6 w1.heap.size w3.heap.size w5.heap.size gs gt gu Ma Mb Ma Fs Ft Fu 0 0 0 [] [] [] := by
            refine ⟨(HLS.out.far HLT.out.b).far hlu.b, (HLT.out.up HB2.out).far hlu.b, hlu.up HB4.out, fun b h1 h2 => ?_, fun b h1 h2 => ?_, fun b h1 h2 => ?_⟩
            · have := HLS.out.lt b h1; have := HLT.out.base b h2; omega
            · have := (HLS.out.far HLT.out.b).lt b h1; have := hlu.base b h2; omega
            · have := HLT.out.lt b h1; have := hlu.base b h2; omega
          have HTRI := Lib.hid htri
          clear hlu htri
          go_wp2_with fail
          go_loopg [14, 15] i (fun k v jv wr => ∃ (j : Nat) (S : Blocks) (Fu : Blocks) (su : Nat) (Eu : List Bool), j ≤ i ∧ jv = .int .i64 j ∧ k = i - j ∧ Tri wb wr w1.heap.size w3.heap.size w5.heap.size gs gt gu Ma Mb Ma Fs Ft Fu 0 0 su [] [] Eu ∧ Rows_ wb wr S v ((L.take j).map fun t => endsAt Ma t 0) Fs Ft Fu)
          case atStart => exact ⟨0, nob, Fu, 0, [], Nat.zero_le _, rfl, rfl, HTRI.out, Own.nil _ _ _ _, fun b hb => by simp [Value.ownBlock] at hb, fun _ h => h.elim⟩
          case round =>
            obtain ⟨j, S, Fu1, su1, Eu1, hji, rfl, rfl, htri, hrows⟩ := hrel
            by_cases hjn : j < i
            · have hjl : j < L.length := by have := hnt.out; omega
              have hbw := htri.s.b
              obtain ⟨gx, ox, A7, c7, rfl, hSg, hcell, hrow⟩ := rowAt (ht.out.keep (fun _ h => h) (Same.of_below hbw (fun _ h => h))) hjl
              have hlh := light (hall.out j hjl hjn)
              have hl2 : Ma.length * ((L[j].length + 1) * (L[j].length + 1)) ≤ 1048576 := by
                refine Nat.le_trans (Nat.mul_le_mul_right _ ?_) hlh.2
                have h3 : na + nb ≤ (j + 1) * (na + nb) := Nat.le_mul_of_pos_left _ (by omega)
                have := hna.out; omega
              have hl1 : L[j].length ≤ 400 := hlh.1
              obtain ⟨x, hx⟩ : ∃ x, x = L[j] := ⟨_, rfl⟩
              rw [← hx] at hcell hrow hl2 hl1
              obtain ⟨nx, hnx⟩ : ∃ nx, nx = x.length := ⟨_, rfl⟩
              rw [← hnx] at hcell
              have hnx4 : nx ≤ 400 := by omega
              have htk : (L.take (j + 1)).map (fun t => endsAt Ma t 0) = (L.take j).map (fun t => endsAt Ma t 0) ++ [endsAt Ma x 0] := by rw [List.take_succ_eq_append_getElem hjl, List.map_append, hx]; rfl
              have hRl : ((L.take j).map (fun t => endsAt Ma t 0)).length ≤ 2147483647 := by simp; omega
              obtain ⟨R, hR⟩ : ∃ R, R = (L.take j).map (fun t => endsAt Ma t 0) := ⟨_, rfl⟩
              rw [← hR] at htk hRl hrows
              have hov := hrows.ov
              obtain ⟨Av, nv, cv, rfl, -, -, -⟩ := hrows.o.form
              have HTRI1 := Lib.hid htri
              have HROWS := Lib.hid hrows
              have HROW := Lib.hid hrow
              have HTK := Lib.hid htk
              have HNX := Lib.hid hnx
              have HL2 := Lib.hid hl2
              have HBW := Lib.hid hbw
              clear htri hrows hrow hl2 hlh hx hR htk hov hnx hbw
              go_wp2_with fail
              refine (copyBytes' A7 nx c7 x wr _ HNX.out HROW.out (by omega)).mono ?_
              rintro e w7 ⟨A8, c8, rfl, HO7, HB7⟩
              go_wp2_with fail
              refine (HTRI1.out.u.endsO HMA.out HB7.out HO7.out HNX.out hl1 HL2.out 0 (Nat.zero_le _)).mono ?_
              rintro e w8 ⟨ge, ce, Fu2, rfl, HE8, HLU8, HON8, HFN8, HNG8, hge1, hge2⟩
              have htri8 := HTRI1.out.stepU HLU8.out HON8.out HFN8.out
              have hrows8 := HROWS.out.step (Fs' := Fs) (Ft' := Ft) (Fu' := Fu2) HON8.out (fun b hb hf => hf.2.2 hb) fun b hb hf => ⟨hf.1, hf.2.1, fun h => by
                rcases HFN8.out b h with h | h
                · exact hf.2.2 h
                · omega⟩
              have hfg : Free Fs Ft Fu2 ge := ⟨fun h => by have := HTRI1.out.s.lt ge h; omega, fun h => by have := HTRI1.out.t.lt ge h; omega, HNG8.out⟩
              have hfz : Free Fs Ft Fu2 w8.heap.size := ⟨htri8.s.fresh, htri8.t.fresh, htri8.u.fresh⟩
              have hnew := rowNew HE8.out
              have hown8 := hrows8.o.alloc (.cells #[.slice (some ⟨ge, 0, none⟩) (nx + 1) ce] 38)
              have hS3 : ∀ b, (S b ∨ b = w8.heap.size ∨ b = ge) → b < (w8.alloc (.cells #[.slice (some ⟨ge, 0, none⟩) (nx + 1) ce] 38)).heap.size ∧ some b ≠ (Value.slice Av nv cv).ownBlock := fun b hb => by
                rcases hb with h | h | h
                · have := hrows8.o.sep b h; exact ⟨by simp; omega, this.2⟩
                · subst h; exact ⟨by simp, fun e => by have := (hrows8.o.vlt e.symm).2; omega⟩
                · subst h; exact ⟨by simp; omega, fun e => by have := (HROWS.out.o.vlt e.symm).2; omega⟩
              have hbz : wb.heap.size ≤ w8.heap.size := htri8.s.b.size
              have HTRI8 := Lib.hid htri8
              have HROWS8 := Lib.hid hrows8
              have HFG := Lib.hid hfg
              have HFZ := Lib.hid hfz
              have HNEW := Lib.hid hnew
              have HOWN8 := Lib.hid hown8
              have HS3 := Lib.hid hS3
              clear htri8 hrows8 hfg hfz hnew hown8 hS3
              go_wp2_with (at_builtin; refine wpList_append_Own _ rfl (.tmp 96) (.tmp 104) 71 rfl (Rep.slice Rep.bool) wb.heap.size 38 24 stRows S _ R rfl HOWN8.out _ _ _ [endsAt Ma x 0] rfl HNEW.out (fun b => S b ∨ b = w8.heap.size ∨ b = ge) HS3.out (fun b h => .inl h) (fun cs y h => (Rep.slice Rep.bool).keep h (fun b h => .inr h) (Same.refl _ _)) (by simp; omega) (by simp; omega) (by simp; omega) ?_; intro v9 w9 hown9 hg9 hat9; have HOWN9 := Lib.hid hown9; have HG9 := Lib.hid hg9; have HAT9 := Lib.hid hat9; clear hown9 hg9 hat9)
              go_roundg (i - (j + 1))
              case measure => omega
              case rel =>
                have hown : ∀ b, some b = (Value.slice Av nv cv).ownBlock → Free Fs Ft Fu2 b ∧ wb.heap.size ≤ b := fun b hb => ⟨HROWS8.out.ov b hb.symm, (HROWS8.out.o.vlt hb.symm).1⟩
                have hon9 : Only (fun b => some b = (Value.slice Av nv cv).ownBlock) (w8.alloc (.cells #[.slice (some ⟨ge, 0, none⟩) (nx + 1) ce] 38)) w9 := Only.of_grown HG9.out _ fun b h => h
                refine ⟨j + 1, _, Fu2, _, _, by omega, by go_num, rfl, (HTRI8.out.far ((Below.refl _ _).alloc (Nat.le_refl _) _)).only hon9 hown, by rw [HTK.out]; exact HOWN9.out, fun b hb => ?_, fun b hb => ?_⟩
                · rcases HAT9.out with h | h
                  · rw [h] at hb; exact (hown b hb.symm).1
                  · rw [h] at hb; injection hb with hb; subst hb
                    have hz : (w8.alloc (.cells #[.slice (some ⟨ge, 0, none⟩) (nx + 1) ce] 38)).heap.size = w8.heap.size + 1 := by simp
                    rw [hz]
                    exact ⟨fun h => by have := HTRI8.out.s.lt _ h; omega, fun h => by have := HTRI8.out.t.lt _ h; omega, fun h => by have := HTRI8.out.u.lt _ h; omega⟩
                · rcases hb with h | h | h
                  · exact HROWS8.out.oS b h
                  · rw [h]; exact HFZ.out
                  · rw [h]; exact HFG.out
            · obtain rfl : j = i := by omega
              have hLt : L.take j = L := List.take_of_length_le (by have := hnt.out; omega)
              rw [hLt] at hrows
              obtain ⟨Av, nv, cv, rfl, -, hnv, hcv⟩ := hrows.o.form
              have HTRI3 := Lib.hid htri
              have HROWS3 := Lib.hid hrows
              clear htri hrows hLt hjn
              obtain ⟨wo, hwo⟩ : ∃ wo : World, wo = wr := ⟨_, rfl⟩
              subst hwo
              go_wp2_with fail
              go_loopg [16] j (fun k mv wq => ∃ (m : Nat) (Fs1 Ft1 : Blocks) (ss1 st1 : Nat) (Es1 Et1 : List Bool), m ≤ j ∧ mv = .int .i64 m ∧ k = j - m ∧ Tri wb wq w1.heap.size w3.heap.size w5.heap.size gs gt gu Ma Mb Ma Fs1 Ft1 Fu1 ss1 st1 su1 Es1 Et1 Eu1 ∧ Rows_ wb wq S (.slice Av nv cv) (L.map fun t => endsAt Ma t 0) Fs1 Ft1 Fu1)
              case atStart => exact ⟨0, Fs, Ft, 0, 0, [], [], Nat.zero_le _, rfl, rfl, HTRI3.out, HROWS3.out⟩
              case round =>
                obtain ⟨m, Fs1, Ft1, ss1, st1, Es1, Et1, hmj, rfl, rfl, htri, hrows⟩ := hrel
                by_cases hmn : m < j
                · have hml : m < L.length := by have := hnt.out; omega
                  have hbw := htri.s.b
                  obtain ⟨gx, ox, A7, c7, hC, hSg, hcell, hrow⟩ := rowAt (ht.out.keep (fun _ h => h) (Same.of_below hbw (fun _ h => h))) hml
                  have hlh := light (hall.out m hml hmn)
                  have hle3 : na + nb ≤ (m + 1) * (na + nb) := Nat.le_mul_of_pos_left _ (by omega)
                  have hl2 : Ma.length * ((L[m].length + 1) * (L[m].length + 1)) ≤ 1048576 := Nat.le_trans (Nat.mul_le_mul_right _ (by have := hna.out; omega)) hlh.2
                  have hl3 : Mb.length * ((L[m].length + 1) * (L[m].length + 1)) ≤ 1048576 := Nat.le_trans (Nat.mul_le_mul_right _ (by have := hnb.out; omega)) hlh.2
                  have hl1 : L[m].length ≤ 400 := hlh.1
                  obtain ⟨x, hx⟩ : ∃ x, x = L[m] := ⟨_, rfl⟩
                  rw [← hx] at hcell hrow hl2 hl1 hl3
                  obtain ⟨nx, hnx⟩ : ∃ nx, nx = x.length := ⟨_, rfl⟩
                  rw [← hnx] at hcell
                  have hnx4 : nx ≤ 400 := by omega
                  subst hC
                  have HX := Lib.hid hx
                  have HTRI1 := Lib.hid htri
                  have HROWS := Lib.hid hrows
                  have HROW := Lib.hid hrow
                  have HNX := Lib.hid hnx
                  have HL2 := Lib.hid hl2
                  have HL3 := Lib.hid hl3
                  clear htri hrows hrow hl2 hl3 hlh hnx hbw hle3 hx
                  go_wp2_with fail
                  refine (copyBytes' A7 nx c7 x wr _ HNX.out HROW.out (by omega)).mono ?_
                  rintro e w7 ⟨A8, c8, rfl, HO7, HB7⟩
                  go_wp2_with fail
                  refine (HTRI1.out.s.endsO HMA.out HB7.out HO7.out HNX.out hl1 HL2.out 0 (Nat.zero_le _)).mono ?_
                  rintro e w8 ⟨ge, ce, Fs2, rfl, HE8, HLS8, HON8, HFN8, HNG8, hge1, hge2⟩
                  have HTRI8 := Lib.hid (HTRI1.out.stepS HLS8.out HON8.out HFN8.out)
                  have HROWS8 := Lib.hid (HROWS.out.step (Fs' := Fs2) (Ft' := Ft1) (Fu' := Fu1) HON8.out (fun b hb hf => hf.1 hb) fun b hb hf => ⟨fun h => by
                    rcases HFN8.out b h with h | h
                    · exact hf.1 h
                    · omega, hf.2.1, hf.2.2⟩)
                  have hgt : ¬ Ft1 ge := fun h => by have := HTRI1.out.t.lt ge h; omega
                  have HGT := Lib.hid hgt
                  obtain ⟨k8, hk8⟩ : ∃ k8, k8 = (fromAll Ma x 0 0).2.2 := ⟨_, rfl⟩
                  have hst8 := HTRI8.out.s.steps
                  have htri8 := HTRI8.out
                  rw [← hk8] at hst8 htri8
                  have HST8 : Hid (Calls Try.prog 18 #[.pointer (some ⟨gs, 0, none⟩)] w8 fun e w' => e = .returned (.int .i64 k8) ∧ w8 = w') := Lib.hid (hst8.mono fun _ _ ⟨a, b⟩ => ⟨a, b.symm⟩)
                  have HTRK8 := Lib.hid htri8
                  obtain ⟨gx2, ox2, A9, c9, hC2, hSg2, hcell2, hrow2⟩ := rowAt (ht.out.keep (fun _ h => h) (Same.of_below HTRI8.out.s.b (fun _ h => h))) hml
                  simp only [Option.some.injEq, Addr.mk.injEq] at hC2
                  obtain ⟨rfl, rfl, -⟩ := hC2
                  rw [← HX.out] at hrow2 hcell2
                  rw [← HNX.out] at hcell2
                  have HROW2 := Lib.hid hrow2
                  clear hgt hst8 htri8 hk8 hrow2
                  go_wp2_with fail
                  refine HST8.out.mono ?_
                  rintro e w' ⟨rfl, rfl⟩
                  go_wp2_with fail
                  refine (copyBytes' A9 nx c9 x w8 _ HNX.out HROW2.out (by omega)).mono ?_
                  rintro e w9 ⟨A10, c10, rfl, HO9, HB9⟩
                  go_wp2_with fail
                  refine (HTRK8.out.t.findO HMB.out HB9.out HO9.out HNX.out hl1 HL3.out 0).mono ?_
                  rintro e w10 ⟨fa, fb, fk, Ft2, st2, Et2, rfl, HLT10, HON10, HFN10⟩
                  have HTRI10 := Lib.hid (HTRK8.out.stepT HLT10.out HON10.out HFN10.out)
                  have hrows10 := HROWS8.out.step (Fs' := Fs2) (Ft' := Ft2) (Fu' := Fu1) HON10.out (fun b hb hf => hf.2.1 hb) fun b hb hf => ⟨hf.1, fun h => by
                    rcases HFN10.out b h with h | h
                    · exact hf.2.1 h
                    · omega, hf.2.2⟩
                  have HROWS10 := Lib.hid hrows10
                  have hmR : m < (L.map fun t => endsAt Ma t 0).length := by simpa using hml
                  obtain ⟨gr, or_, nr, cr, Ar, cr2, Sr, hvr, hmr1, hmr2, hmr3, hcr, hsr⟩ := hrows10.at_ hmR
                  simp only [Value.slice.injEq] at hvr
                  obtain ⟨rfl, rfl, rfl⟩ := hvr
                  have hRm : (L.map fun t => endsAt Ma t 0)[m] = endsAt Ma x 0 := by simp [HX.out]
                  rw [hRm] at hcr hsr
                  have hE10 := HE8.out.only HON10.out fun b hb hf => by
                    simp [Value.ownBlock] at hb
                    rw [← hb] at hf
                    exact HGT.out hf
                  obtain ⟨Al, cl, hvl, hsl⟩ := hE10.slice
                  simp only [Value.slice.injEq] at hvl
                  obtain ⟨rfl, hll, rfl⟩ := hvl
                  have heq := eqBools (some ⟨ge, 0, none⟩) Ar ce cr2 (endsAt Ma x 0) (endsAt Ma x 0) w10 _ _ hsl hsr
                  rw [← hll] at heq hcr
                  rw [decide_eq_true rfl] at heq
                  have HEQ := Lib.hid heq
                  have hst10 := fun nd => (HTRI10.out.s.far (w' := w10.drewN nd) ⟨rfl, rfl, rfl, Nat.le_refl _, fun _ _ => rfl⟩).steps
                  have HST10 : Hid (∀ nd, Calls Try.prog 18 #[.pointer (some ⟨gs, 0, none⟩)] (w10.drewN nd) fun e w' => e = .returned (.int .i64 k8) ∧ w10.drewN nd = w') := Lib.hid fun nd => (hst10 nd).mono fun _ _ ⟨a, b⟩ => ⟨a, b.symm⟩
                  clear heq hst10 hE10 hsl hsr hrows10 hmR hRm hll
                  go_wp2_with fail
                  refine HEQ.out.mono ?_
                  rintro e w' ⟨rfl, nd, rfl⟩
                  go_wp2_with fail
                  refine (HST10.out nd).mono ?_
                  rintro e w' ⟨rfl, rfl⟩
                  go_wp2_with fail
                  go_roundg (j - (m + 1))
                  case measure => omega
                  case rel => exact ⟨m + 1, Fs2, Ft2, k8, st2, _, Et2, by omega, by go_num, rfl, HTRI10.out.far ⟨rfl, rfl, rfl, Nat.le_refl _, fun _ _ => rfl⟩, HROWS10.out.step (F := nob) ((Only.refl _ _).drewN nd) (fun _ h => h.elim) (fun _ _ h => h)⟩
                · have HB11 := Lib.hid htri.s.b
                  clear htri hrows
                  go_wp2_with fail
                  refine (works_any _).mono ?_
                  rintro e w' ⟨rfl, hb7⟩
                  have HB7 := Lib.hid hb7
                  clear hb7
                  go_wp2_with fail
                  go_ret
                  exact ⟨rfl, HB11.out.trans (HB7.out.mono HB11.out.size)⟩
        · have HMA := Lib.hid hMa
          have HMB := Lib.hid hMb
          clear hMa hMb
          go_wp2_with fail
          refine (copyInstrs' A na ca Ma _ _ hna.out ha.out (by omega)).mono ?_
          rintro e w1 ⟨A1, c1, rfl, -, HN1, -⟩
          go_wp2_with fail
          refine (HN1.out HMA.out).mono ?_
          rintro e w2 ⟨gs, F, rfl, hls⟩
          have HB2 := Lib.hid hls.b
          have HBT := Lib.hid (hb.out.keep (fun _ h => h) (Same.of_below HB2.out (fun _ h => h)))
          clear hls
          go_wp2_with fail
          refine (copyInstrs' B nb cb Mb w2 _ hnb.out HBT.out (by omega)).mono ?_
          rintro e w3 ⟨A3, c3, rfl, -, -, HN3⟩
          go_wp2_with fail
          refine (HN3.out HMB.out).mono ?_
          rintro e w4 ⟨rfl, hb4⟩
          have HB4 := Lib.hid (HB2.out.trans (hb4.mono HB2.out.size))
          have HAT := Lib.hid (ha.out.keep (fun _ h => h) (Same.of_below HB4.out (fun _ h => h)))
          clear hb4
          go_wp2_with fail
          refine (copyInstrs' A na ca Ma w4 _ hna.out HAT.out (by omega)).mono ?_
          rintro e w5 ⟨A5, c5, rfl, -, HN5, -⟩
          go_wp2_with fail
          refine (HN5.out HMA.out).mono ?_
          rintro e w6 ⟨gu, Fu, rfl, hlu⟩
          have HB6 := Lib.hid (HB4.out.trans (hlu.b.mono HB4.out.size))
          clear hlu
          go_wp2_with fail
          refine (works_any _).mono ?_
          rintro e w' ⟨rfl, hb7⟩
          have HB7 := Lib.hid hb7
          clear hb7
          go_wp2_with fail
          go_ret
          exact ⟨rfl, HB6.out.trans (HB7.out.mono HB6.out.size)⟩
      · have HMA := Lib.hid hMa
        clear hMa
        go_wp2_with fail
        refine (copyInstrs' A na ca Ma _ _ hna.out ha.out (by omega)).mono ?_
        rintro e w1 ⟨A1, c1, rfl, -, -, HN1⟩
        go_wp2_with fail
        refine (HN1.out HMA.out).mono ?_
        rintro e w2 ⟨rfl, hb2⟩
        have HB2 := Lib.hid hb2
        have HBT := Lib.hid (hb.out.keep (fun _ h => h) (Same.of_below HB2.out (fun _ h => h)))
        clear hb2
        by_cases hMb : MShaped Mb
        · have HMB := Lib.hid hMb
          clear hMb
          go_wp2_with fail
          refine (copyInstrs' B nb cb Mb w2 _ hnb.out HBT.out (by omega)).mono ?_
          rintro e w3 ⟨A3, c3, rfl, -, HN3, -⟩
          go_wp2_with fail
          refine (HN3.out HMB.out).mono ?_
          rintro e w4 ⟨gt, Ft, rfl, hlt⟩
          have HB4 := Lib.hid (HB2.out.trans (hlt.b.mono HB2.out.size))
          have HAT := Lib.hid (ha.out.keep (fun _ h => h) (Same.of_below HB4.out (fun _ h => h)))
          clear hlt
          go_wp2_with fail
          refine (copyInstrs' A na ca Ma w4 _ hna.out HAT.out (by omega)).mono ?_
          rintro e w5 ⟨A5, c5, rfl, -, -, HN5⟩
          go_wp2_with fail
          refine (HN5.out HMA.out).mono ?_
          rintro e w6 ⟨rfl, hb6⟩
          have HB6 := Lib.hid (HB4.out.trans (hb6.mono HB4.out.size))
          clear hb6
          go_wp2_with fail
          refine (works_any _).mono ?_
          rintro e w' ⟨rfl, hb7⟩
          have HB7 := Lib.hid hb7
          clear hb7
          go_wp2_with fail
          go_ret
          exact ⟨rfl, HB6.out.trans (HB7.out.mono HB6.out.size)⟩
        · have HMB := Lib.hid hMb
          clear hMb
          go_wp2_with fail
          refine (copyInstrs' B nb cb Mb w2 _ hnb.out HBT.out (by omega)).mono ?_
          rintro e w3 ⟨A3, c3, rfl, -, -, HN3⟩
          go_wp2_with fail
          refine (HN3.out HMB.out).mono ?_
          rintro e w4 ⟨rfl, hb4⟩
          have HB4 := Lib.hid (HB2.out.trans (hb4.mono HB2.out.size))
          have HAT := Lib.hid (ha.out.keep (fun _ h => h) (Same.of_below HB4.out (fun _ h => h)))
          clear hb4
          go_wp2_with fail
          refine (copyInstrs' A na ca Ma w4 _ hna.out HAT.out (by omega)).mono ?_
          rintro e w5 ⟨A5, c5, rfl, -, -, HN5⟩
          go_wp2_with fail
          refine (HN5.out HMA.out).mono ?_
          rintro e w6 ⟨rfl, hb6⟩
          have HB6 := Lib.hid (HB4.out.trans (hb6.mono HB4.out.size))
          clear hb6
          go_wp2_with fail
          refine (works_any _).mono ?_
          rintro e w' ⟨rfl, hb7⟩
          have HB7 := Lib.hid hb7
          clear hb7
          go_wp2_with fail
          go_ret
          exact ⟨rfl, HB6.out.trans (HB7.out.mono HB6.out.size)⟩
end
end Go.Proofs.Ytfbaaccnnogajaa
