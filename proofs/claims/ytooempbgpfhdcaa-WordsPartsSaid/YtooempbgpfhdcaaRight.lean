/- Marks: the walk of right. No conditions. -/
import Derived.Test.YtooempbgpfhdcaaWorks19
import Derived.Test.YtooempbgpfhdcaaStBytes
namespace Go.Proofs.Ytooempbgpfhdcaa
open Go.RowKit Go.ChangeShapes Go.WideShapes Go.Deep

theorem retB' {b c : Bool} (h : b = c) : Ending.returned (.bool c) = Ending.returned (.bool b) := by rw [h]
set_option maxRecDepth 100000 in
set_option maxHeartbeats 4000000 in
theorem right_any (A : Option Addr) (n c : Nat) (l : List Words.Mk) (d : UInt8) (ends : Bool) (w : World) (hn : Hid (n = l.length)) (hl : Hid (SliceAt Rep.mark w (under w.heap.size) A c l)) :
    Calls Try.prog 11 #[.slice A n c, .int .u8 d.toNat, .bool ends] w fun e w' => e = .returned (.bool (Words.right d ends l && (d != 92 && d != 10))) ∧ Hid (Below w.heap.size w w') := by
  have hnc := hl.out.len
  have hcm := hl.out.max
  rw [← hn.out] at hnc
  have hdl := d.toNat_lt
  obtain ⟨dn, hdn⟩ : ∃ dn, dn = d.toNat := ⟨_, rfl⟩
  have hdn256 : dn < 256 := by omega
  rw [← hdn]
  have HDN := Lib.hid hdn
  clear hdn hdl
  go_enter Try.func11, Try.ntmps11
  go_wp2_with fail
  go_loopg [7] n (fun j v7 wr => ∃ (i : Nat), i ≤ n ∧ j = n - i ∧ v7 = .int .i64 i ∧ Hid (Words.right d ends l = Words.right d ends (l.drop i)) ∧ Hid (Below w.heap.size w wr))
  case atStart => exact ⟨0, Nat.zero_le _, rfl, rfl, Lib.hid rfl, Lib.hid (Below.refl _ _)⟩
  case round =>
    obtain ⟨i, hi, rfl, rfl, HR, HB⟩ := hrel
    by_cases hlt : i < n
    · have hil : i < l.length := by have := hn.out; omega
      obtain ⟨g, o, rfl, hg, hc1, hc2⟩ := hl.out.marks hil
      have hdr : l.drop i = l[i] :: l.drop (i + 1) := List.drop_eq_getElem_cons hil
      obtain ⟨x, hx⟩ : ∃ x, x = l[i] := ⟨_, rfl⟩
      rw [← hx] at hc1 hc2 hdr
      obtain ⟨b, p⟩ := x
      simp only at hc1 hc2
      rw [hdr, Words.right_cons] at HR
      have hc1 : wr.cell? ⟨g, o + i * 2, none⟩ = some (.int .u8 b.toNat) := (HB.out.cell (p := ⟨g, o + i * 2, none⟩) hg).trans hc1
      have hc2 : wr.cell? ⟨g, o + i * 2 + 1, none⟩ = some (.bool p) := (HB.out.cell (p := ⟨g, o + i * 2 + 1, none⟩) hg).trans hc2
      have hii : (i : Int) < (n : Int) := by omega
      have hi0 : (0 : Int) ≤ (i : Int) := Int.natCast_nonneg _
      have HBA := Lib.hid fun o => HB.out.alloc HB.out.size o
      clear hx hdr
      cases p with
      | true =>
        simp only [if_true] at HR
        by_cases hbd : b = d
        · subst hbd
          rw [← HDN.out] at hc1
          have HR2 : Hid (Words.right b ends l = Words.right b ends (l.drop (i + 1))) := Lib.hid (by rw [HR.out]; simp)
          go_wp2_with fail
          go_roundg (n - (i + 1))
          case measure => omega
          case rel => exact ⟨i + 1, by omega, rfl, by go_num, HR2, Lib.hid (HBA.out _)⟩
        · have f1 : ((b.toNat : Int) != (dn : Int)) = true := by rw [bne_iff_ne]; have := u8_ne hbd; rw [← HDN.out] at this; omega
          have HR2 : Hid (Words.right d ends l = false) := Lib.hid (by rw [HR.out]; simp [hbd])
          clear hbd
          go_wp2_with fail
          go_ret
          exact ⟨retB' (by rw [HR2.out]; rfl), Lib.hid (HBA.out _)⟩
      | false =>
        simp only [Bool.false_eq_true, if_false] at HR
        by_cases hbd : b = d
        · subst hbd
          rw [← HDN.out] at hc1
          have HR2 : Hid (Words.right b ends l = false) := Lib.hid (by rw [HR.out]; simp)
          go_wp2_with fail
          go_ret
          exact ⟨retB' (by rw [HR2.out]; rfl), Lib.hid (HBA.out _)⟩
        · have f1 : ((b.toNat : Int) == (dn : Int)) = false := by rw [beq_eq_false_iff_ne]; have := u8_ne hbd; rw [← HDN.out] at this; omega
          have f2 : (b.toNat == dn) = false := by rw [beq_eq_false_iff_ne]; have := u8_ne hbd; rw [← HDN.out] at this; omega
          by_cases hb10 : b = 10
          · subst hb10
            have HR2 : Hid (Words.right d ends l = false) := Lib.hid (by rw [HR.out]; simp)
            have hc1' : wr.cell? ⟨g, o + i * 2, none⟩ = some (.int .u8 10) := hc1
            have f3 : ((10 : Int) == (dn : Int)) = false := f1
            clear hc1 f1 f2 hbd
            go_wp2_with fail
            go_ret
            exact ⟨retB' (by rw [HR2.out]; rfl), Lib.hid (HBA.out _)⟩
          · have f3 : ((b.toNat : Int) == 10) = false := by rw [beq_eq_false_iff_ne]; have := u8_ne hb10; intro e; exact this (by show b.toNat = 10; omega)
            rw [if_neg (by simp [hbd, hb10])] at HR
            by_cases hb92 : b = 92
            · subst hb92
              rw [if_pos rfl] at HR
              have hc1' : wr.cell? ⟨g, o + i * 2, none⟩ = some (.int .u8 92) := hc1
              have f3 : ((92 : Int) == (dn : Int)) = false := f1
              clear hc1 f1 f2 hbd hb10
              by_cases hi1 : i + 1 = n
              · have HR2 : Hid (Words.right d ends l = false) := Lib.hid (by rw [HR.out, List.drop_of_length_le (by have := hn.out; omega)])
                have g1 : (((i : Int) + 1) == (n : Int)) = true := by rw [beq_iff_eq]; omega
                clear HR hi1
                go_wp2_with fail
                go_ret
                exact ⟨retB' (by rw [HR2.out]; rfl), Lib.hid (HBA.out _)⟩
              · have hil2 : i + 1 < l.length := by have := hn.out; omega
                obtain ⟨g', o', hgo, -, hd1, hd2⟩ := hl.out.marks hil2
                simp only [Option.some.injEq, Addr.mk.injEq] at hgo
                obtain ⟨rfl, rfl, -⟩ := hgo
                have hdr : l.drop (i + 1) = l[i + 1] :: l.drop (i + 1 + 1) := List.drop_eq_getElem_cons hil2
                obtain ⟨y, hy⟩ : ∃ y, y = l[i + 1] := ⟨_, rfl⟩
                rw [← hy] at hd1 hd2 hdr
                obtain ⟨e, q⟩ := y
                simp only at hd1 hd2
                rw [hdr] at HR
                simp only at HR
                have hd1 : ∀ ob, (wr.alloc ob).cell? ⟨g, o + (i + 1) * 2, none⟩ = some (.int .u8 e.toNat) := fun ob => ((HBA.out ob).cell (p := ⟨g, o + (i + 1) * 2, none⟩) hg).trans hd1
                have hd2 : ∀ ob, (wr.alloc ob).cell? ⟨g, o + (i + 1) * 2 + 1, none⟩ = some (.bool q) := fun ob => ((HBA.out ob).cell (p := ⟨g, o + (i + 1) * 2 + 1, none⟩) hg).trans hd2
                have g1 : (((i : Int) + 1) == (n : Int)) = false := by rw [beq_eq_false_iff_ne]; omega
                have g2 : ((i : Int) + 1) < (n : Int) := by omega
                clear hy hdr hi1
                cases q with
                | true =>
                  have HR2 : Hid (Words.right d ends l = false) := Lib.hid (by rw [HR.out]; simp)
                  clear HR
                  go_wp2_with fail
                  go_ret
                  exact ⟨retB' (by rw [HR2.out]; rfl), Lib.hid (HBA.out _)⟩
                | false =>
                  by_cases hed : e = d
                  · subst hed
                    rw [← HDN.out] at hd1
                    have HR2 : Hid (Words.right e ends l = false) := Lib.hid (by rw [HR.out]; simp)
                    clear HR
                    go_wp2_with fail
                    go_ret
                    exact ⟨retB' (by rw [HR2.out]; rfl), Lib.hid (HBA.out _)⟩
                  · have f5 : ((e.toNat : Int) == (dn : Int)) = false := by rw [beq_eq_false_iff_ne]; have := u8_ne hed; rw [← HDN.out] at this; omega
                    have f6 : (e.toNat == dn) = false := by rw [beq_eq_false_iff_ne]; have := u8_ne hed; rw [← HDN.out] at this; omega
                    by_cases he10 : e = 10
                    · subst he10
                      have hd1' : ∀ ob, (wr.alloc ob).cell? ⟨g, o + (i + 1) * 2, none⟩ = some (.int .u8 10) := hd1
                      have f7 : ((10 : Int) == (dn : Int)) = false := f5
                      cases ends with
                      | false =>
                        have HR2 : Hid (Words.right d false l = false) := Lib.hid (by rw [HR.out]; simp)
                        clear HR hd1 f5 f6 hed
                        go_wp2_with fail
                        go_ret
                        exact ⟨retB' (by rw [HR2.out]; rfl), Lib.hid (HBA.out _)⟩
                      | true =>
                        have HR2 : Hid (Words.right d true l = Words.right d true (l.drop (i + 1 + 1))) := Lib.hid (by rw [HR.out]; simp [hed])
                        clear HR hd1 f5 f6 hed
                        go_wp2_with fail
                        go_roundg (n - (i + 1 + 1))
                        case measure => omega
                        case rel => exact ⟨i + 1 + 1, by omega, rfl, by go_num, HR2, Lib.hid (HBA.out _)⟩
                    · have f7 : ((e.toNat : Int) == 10) = false := by rw [beq_eq_false_iff_ne]; have := u8_ne he10; intro e1; exact this (by show e.toNat = 10; omega)
                      have HR2 : Hid (Words.right d ends l = Words.right d ends (l.drop (i + 1 + 1))) := Lib.hid (by rw [HR.out]; simp [hed, he10])
                      clear HR hed he10
                      go_wp2_with fail
                      go_roundg (n - (i + 1 + 1))
                      case measure => omega
                      case rel => exact ⟨i + 1 + 1, by omega, rfl, by go_num, HR2, Lib.hid (HBA.out _)⟩
            · have f4 : ((b.toNat : Int) != 92) = true := by rw [bne_iff_ne]; have := u8_ne hb92; intro e; exact this (by show b.toNat = 92; omega)
              have HR2 : Hid (Words.right d ends l = Words.right d ends (l.drop (i + 1))) := Lib.hid (by rw [HR.out, if_neg hb92])
              clear hb92 hb10 hbd HR
              go_wp2_with fail
              go_roundg (n - (i + 1))
              case measure => omega
              case rel => exact ⟨i + 1, by omega, rfl, by go_num, HR2, Lib.hid (HBA.out _)⟩
    · obtain rfl : i = n := by omega
      have HF : Hid (Words.right d ends l = true) := Lib.hid (by rw [HR.out, List.drop_of_length_le (by have := hn.out; omega)]; rfl)
      by_cases h92 : d = 92
      · subst h92
        obtain rfl : dn = 92 := HDN.out
        go_wp2_with fail
        go_ret
        exact ⟨retB' (by rw [HF.out]; rfl), HB⟩
      · have e1 : ((dn : Int) == 92) = false := by rw [beq_eq_false_iff_ne]; have := u8_ne h92; rw [← HDN.out] at this; intro e; exact this (by show dn = 92; omega)
        have e1' : ((dn : Int) != 92) = true := by rw [bne, e1]; rfl
        by_cases h10 : d = 10
        · subst h10
          obtain rfl : dn = 10 := HDN.out
          go_wp2_with fail
          go_ret
          exact ⟨retB' (by rw [HF.out]; rfl), HB⟩
        · have e2 : ((dn : Int) == 10) = false := by rw [beq_eq_false_iff_ne]; have := u8_ne h10; rw [← HDN.out] at this; intro e; exact this (by show dn = 10; omega)
          have e2' : ((dn : Int) != 10) = true := by rw [bne, e2]; rfl
          have HF2 : Hid ((Words.right d ends l && (d != 92 && d != 10)) = true) := Lib.hid (by rw [HF.out]; simp [h92, h10])
          clear h92 h10
          go_wp2_with fail
          go_ret
          exact ⟨retB' (by rw [HF2.out]), HB⟩
end Go.Proofs.Ytooempbgpfhdcaa
