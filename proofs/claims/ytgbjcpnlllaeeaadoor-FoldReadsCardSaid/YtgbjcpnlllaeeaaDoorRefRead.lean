/- Bytes read back, the document's way: the walk of galleyref18.read. Condition: room. -/
import Derived.Test.YtgbjcpnlllaeeaaDoorProg
import Derived.Test.YtgbjcpnlllaeeaaDoorRefFold
import Derived.Test.YtgbjcpnlllaeeaaDoorRefBackPlain
namespace Go.Proofs.YtgbjcpnlllaeeaaDoor
open Go.RowKit

theorem ofNat_int {c : Nat} (h : c < 256) : (c : Int) = ((UInt8.ofNat c).toNat : Int) := by rw [Fold.ofN c h]
theorem take_eq_snoc {p t : List UInt8} {i : Nat} (hp : i < p.length) (ht : i < t.length) : decide (p.take (i + 1) = t.take (i + 1)) = (decide (p.take i = t.take i) && decide (t[i] = p[i])) := by
  rw [Bool.eq_iff_iff]
  simp only [decide_eq_true_eq, Bool.and_eq_true]
  rw [List.take_succ_eq_append_getElem hp, List.take_succ_eq_append_getElem ht]
  constructor
  · intro h
    have := List.append_inj' h rfl
    exact ⟨this.1, by simpa using this.2.symm⟩
  · rintro ⟨h1, h2⟩
    rw [h1, h2]
set_option maxRecDepth 100000 in
set_option maxHeartbeats 8000000 in
theorem refRead_any (A : Option Addr) (n ca p : Nat) (u : List UInt8) (w : World) (hn : n = u.length) (hu : SliceAt Rep.byte w (under w.heap.size) A ca u) (hp : p ≤ n) (hsize : n ≤ 4294967296) :
    Calls Tryd.prog 44 #[.slice A n ca, .int .i64 p] w fun e w' => e = .returned (.tuple #[.int .u8 (Fold.readGo 256 0 (u.drop p)).1.toNat, .int .i64 ((Fold.readGo 256 0 (u.drop p)).2 : Nat)]) ∧ Below w.heap.size w w' := by
  have hnc : n ≤ ca := by rw [hn]; exact hu.len
  have hcm := hu.max
  have HU := Lib.hid hu
  have HN := Lib.hid hn
  obtain ⟨R, hR⟩ : ∃ R, R = Fold.readGo 256 0 (u.drop p) := ⟨_, rfl⟩
  rw [← hR]
  have HR := Lib.hid hR
  clear hu hn hR
  go_enter Tryd.func44, Tryd.ntmps44
  go_wp2_with fail
  go_loopg [6] 256 (fun k iv wr => ∃ c : Nat, c ≤ 256 ∧ iv = .int .i64 c ∧ k = 256 - c ∧ Hid (Below w.heap.size w wr) ∧ Hid (R = Fold.readGo (256 - c) c (u.drop p)))
  case atStart => exact ⟨0, Nat.zero_le _, rfl, rfl, Lib.hid (Below.refl _ _), HR⟩
  case round =>
    obtain ⟨c, hc, rfl, rfl, HB, HRR⟩ := hrel
    by_cases hlt : c < 256
    · obtain ⟨x, hx⟩ : ∃ x, x = UInt8.ofNat c := ⟨_, rfl⟩
      have hstep : R = if (Fold.piece x).isPrefixOf (u.drop p) then (x, (Fold.piece x).length) else Fold.readGo (256 - (c + 1)) (c + 1) (u.drop p) := by
        have := HRR.out
        rw [show 256 - c = (256 - (c + 1)) + 1 by omega, Fold.readGo, ← hx] at this
        exact this
      have HST := Lib.hid hstep
      have hxi : (c : Int) = (x.toNat : Int) := by rw [hx]; exact ofNat_int hlt
      have HXI := Lib.hid hxi
      have hpl := Fold.piece_len x
      obtain ⟨m, hm⟩ : ∃ m, m = (Fold.piece x).length := ⟨_, rfl⟩
      have hm1 : 1 ≤ m := by omega
      have hm4 : m ≤ 4 := by omega
      have HM := Lib.hid hm
      have hz := HB.out.size
      clear hstep hx hpl hm hxi
      have hpc := refPiece_any x wr
      rw [← HXI.out] at hpc
      have HPC := Lib.hid hpc
      clear hpc
      go_wp2_with fail
      refine HPC.out.mono ?_
      rintro e w2 ⟨A2, n2, c2, rfl, hn2, hs2, hb2⟩
      obtain rfl : m = n2 := HM.out.trans hn2.out.symm
      have hmc := hs2.len
      rw [← HM.out] at hmc
      have hcm2 := hs2.max
      have HS2 := Lib.hid hs2
      have HB2 := Lib.hid (HB.out.trans (hb2.mono hz))
      clear hs2 hb2
      by_cases hlong : n < p + m
      · have hno : (Fold.piece x).isPrefixOf (u.drop p) = false := by
          cases h : (Fold.piece x).isPrefixOf (u.drop p) with
          | false => rfl
          | true =>
            have := (List.isPrefixOf_iff_prefix.1 h).length_le
            rw [List.length_drop] at this
            have := HM.out
            have := HN.out
            omega
        have hnext : R = Fold.readGo (256 - (c + 1)) (c + 1) (u.drop p) := by rw [HST.out, hno]; rfl
        have HNX := Lib.hid hnext
        have hl' : (n : Int) < (p : Int) + (m : Int) := by omega
        clear hno hnext hlong
        go_wp2_with fail
        go_roundg (256 - (c + 1))
        case measure => omega
        case rel => exact ⟨c + 1, by omega, by go_num, rfl, HB2, HNX⟩
      · have hl' : decide ((n : Int) < (p : Int) + (m : Int)) = false := decide_eq_false (by omega)
        have hpm : p + m ≤ n := by omega
        clear hlong
        go_wp2_with fail
        obtain ⟨w3, rfl⟩ : ∃ w3 : World, w3 = w2 := ⟨_, rfl⟩
        go_loopg [8, 9] m (fun k sv iv wr => ∃ (i nd : Nat) (s : Bool), i ≤ m ∧ iv = .int .i64 i ∧ sv = .bool s ∧ k = m - i ∧ wr = w3.drewN nd ∧ Hid (s = decide ((Fold.piece x).take i = (u.drop p).take i)))
        case atStart => exact ⟨0, 0, true, Nat.zero_le _, rfl, rfl, rfl, rfl, Lib.hid (by simp)⟩
        case round =>
          obtain ⟨i, nd, s, hi, rfl, rfl, rfl, hwr, HS⟩ := hrel
          by_cases him : i < m
          · have hip : i < (Fold.piece x).length := by have := HM.out; omega
            have hit : i < (u.drop p).length := by rw [List.length_drop]; have := HN.out; omega
            have hpi : p + i < u.length := by have := HN.out; omega
            have hsn := take_eq_snoc hip hit
            have hti : (u.drop p)[i] = u[p + i] := by simp
            rw [hti, ← HS.out] at hsn
            obtain ⟨g1, o1, rfl, hg1, hc1⟩ := HU.out.byte hpi
            obtain ⟨g2, o2, rfl, hg2, hc2'⟩ := HS2.out.byte hip
            have hc1' := (HB2.out.cell (p := ⟨g1, o1 + (p + i), none⟩) hg1).trans hc1
            obtain ⟨y, hy⟩ : ∃ y, y = u[p + i] := ⟨_, rfl⟩
            obtain ⟨z, hz2⟩ : ∃ z, z = (Fold.piece x)[i] := ⟨_, rfl⟩
            rw [← hy] at hc1' hsn
            rw [← hz2] at hc2' hsn
            have HSN := Lib.hid hsn
            obtain ⟨W, hW⟩ : ∃ W, W = w3.drewN nd := ⟨_, rfl⟩
            have e0 : ∀ a, W.cell? a = w3.cell? a := fun a => by rw [hW]; rfl
            rw [← e0] at hc1' hc2'
            have HW := Lib.hid (hwr.trans hW.symm)
            have HW3 := Lib.hid hW
            have hwr' := hwr.trans hW.symm
            clear hsn hti hy hz2 hc1 hip hit hwr hW e0
            subst hwr'
            cases s
            · go_wp2_with fail
              go_quiet (fail)
              go_wp2_with fail
              go_roundg (m - (i + 1))
              case measure => omega
              case rel => exact ⟨i + 1, nd + nq, false, by omega, by go_num, rfl, rfl, by rw [HW3.out]; exact World.drewN_drewN _ _ _, Lib.hid (by rw [HSN.out]; rfl)⟩
            · by_cases hyz : y = z
              · have HYZ := Lib.hid hyz
                subst hyz
                go_wp2_with fail
                go_quiet (fail)
                go_wp2_with fail
                go_roundg (m - (i + 1))
                case measure => omega
                case rel => exact ⟨i + 1, nd + nq, true, by omega, by go_num, rfl, rfl, by rw [HW3.out]; exact World.drewN_drewN _ _ _, Lib.hid (by rw [HSN.out]; simp)⟩
              · have hne : ((y.toNat : Int) == (z.toNat : Int)) = false := by rw [beq_eq_false_iff_ne]; intro h; exact hyz (UInt8.toNat_inj.1 (by omega))
                have hne2 : (y.toNat == z.toNat) = false := by rw [beq_eq_false_iff_ne]; intro h; exact hyz (UInt8.toNat_inj.1 h)
                have HYZ := Lib.hid hyz
                clear hyz
                go_wp2_with fail
                go_quiet (fail)
                go_wp2_with fail
                go_roundg (m - (i + 1))
                case measure => omega
                case rel => exact ⟨i + 1, nd + nq, false, by omega, by go_num, rfl, rfl, by rw [HW3.out]; exact World.drewN_drewN _ _ _, Lib.hid (by rw [HSN.out]; simp [HYZ.out])⟩
          · have e0 : m = i := by omega
            subst e0
            have hpre : s = (Fold.piece x).isPrefixOf (u.drop p) := by
              rw [HS.out, List.take_of_length_le (by have := HM.out; omega), HM.out]
              rw [Bool.eq_iff_iff, decide_eq_true_eq, List.isPrefixOf_iff_prefix]
              exact ⟨fun h => h ▸ List.take_prefix _ _, fun h => List.prefix_iff_eq_take.1 h⟩
            have HB3 : Hid (Below w.heap.size w wr) := Lib.hid (by rw [hwr]; exact HB2.out.trans ⟨rfl, rfl, rfl, Nat.le_refl _, fun _ _ => rfl⟩)
            cases s
            · have hnext : R = Fold.readGo (256 - (c + 1)) (c + 1) (u.drop p) := by rw [HST.out, ← hpre]; rfl
              have HNX := Lib.hid hnext
              clear hnext hpre hwr him
              go_wp2_with fail
              go_roundg (256 - (c + 1))
              case measure => omega
              case rel => exact ⟨c + 1, by omega, by go_num, rfl, HB3, HNX⟩
            · have hnext : R = (x, m) := by rw [HST.out, ← hpre, HM.out]; rfl
              subst hnext
              clear hpre hwr him
              go_wp2_with fail
              go_ret2
              exact ⟨by simp only [HXI.out]; rfl, HB3.out⟩
    · have e0 : c = 256 := by omega
      subst e0
      have hfin : R = (0, 0) := by rw [HRR.out]; rfl
      subst hfin
      clear hlt
      go_wp2_with fail
      go_ret2
      exact ⟨rfl, HB.out⟩
end Go.Proofs.YtgbjcpnlllaeeaaDoor
