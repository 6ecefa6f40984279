/- galleylaw29.TempsUnlike: the walk. No conditions. -/
import Derived.Test.YtncpeogkccjmcaaTempWorks
import Derived.Test.YtncpeogkccjmcaaDiskMake
namespace Go.Proofs.Ytncpeogkccjmcaa
open Go.RowKit Go.ChangeShapes Go.WideShapes Go.Deep

namespace Disk
theorem isTmp_pre (l : Nm) : isTmp (tmpPre ++ l) = true := by unfold isTmp; rw [List.isPrefixOf_iff_prefix]; exact List.prefix_append _ _
theorem hasTmp_parts {l : Nm} (h : hasTmp l = true) : isName l = true ∧ l.length ≤ 56 ∧ isTmp l = false := by
  unfold hasTmp at h
  simp only [Bool.and_eq_true, decide_eq_true_eq, Bool.not_eq_true'] at h
  exact ⟨h.1.1, h.1.2, h.2⟩
theorem isName_pre {l : Nm} (h : hasTmp l = true) : isName (tmpPre ++ l) = true := by
  obtain ⟨h1, h2, -⟩ := hasTmp_parts h
  unfold isName at h1 ⊢
  simp only [Bool.and_eq_true, decide_eq_true_eq, Bool.not_eq_true', List.any_append, List.length_append, Bool.or_eq_false_iff] at h1 ⊢
  refine ⟨⟨?_, ?_⟩, by decide, h1.2⟩
  · have := h1.1.1; omega
  · rw [show tmpPre.length = 8 from rfl]; omega
theorem hasTmp_again {l : Nm} : hasTmp (tmpPre ++ l) = false := by unfold hasTmp; rw [isTmp_pre]; simp
theorem make_ok {s : St} {n : Nm} (hon : s.on = true) (hp : s.plan = []) (hn : isName n = true) (hl : s.now.length < 64) : (s.make n).2 = 0 ∧ (s.make n).1.on = true ∧ (s.make n).1.plan = [] := by
  have h1 : s.looked [] [n] = 0 := by simp [St.looked, hon, hn]
  have h2 : s.looked [] [] = 0 := by simp [St.looked, hon]
  unfold St.make St.call
  rw [if_neg (by simp [h1]), if_neg (by simp [h2]), tried_free hp, if_neg (by simp)]
  dsimp only
  rw [if_neg (by simp only [not_and]; intro _; omega)]
  exact ⟨rfl, hon, hp⟩
def u0 : St := fromSt 1 []
theorem u_from : fromErr 1 [] = 0 := by decide
theorem u_fine : Fine u0 := fine_from (by decide)
theorem u_small : Small 0 u0 := small_from _ _
theorem u_make {l : Nm} (h : hasTmp l = true) : (u0.make (tmpPre ++ l)).2 = 0 ∧ ((u0.make (tmpPre ++ l)).1.make l).2 = 0 := by
  obtain ⟨a, b, c⟩ := make_ok (s := u0) rfl rfl (isName_pre h) (by decide)
  refine ⟨a, ?_⟩
  have hl : (u0.make (tmpPre ++ l)).1.now.length ≤ 1 := by
    have h1 : u0.looked [] [tmpPre ++ l] = 0 := by simp [St.looked, u0, fromSt, isName_pre h]
    have h2 : u0.looked [] [] = 0 := by simp [St.looked, u0, fromSt]
    unfold St.make St.call
    rw [if_neg (by simp [h1]), if_neg (by simp [h2]), tried_free (s := u0) rfl, if_neg (by simp)]
    dsimp only
    rw [if_neg (by simp [u0, fromSt, nowOf, nowGo])]
    simp [St.changes, St.more, behind, u0, fromSt, nowOf, nowGo, tmpPre, put, ins, drop]
  exact (make_ok (s := (u0.make (tmpPre ++ l)).1) b c (hasTmp_parts h).1 (by omega)).1
theorem pre_inj {a b : Nm} : (tmpPre ++ a = tmpPre ++ b) ↔ a = b := by simp
end Disk
section
variable {w : World}
set_option maxRecDepth 100000 in
set_option maxHeartbeats 4000000 in
theorem tempsUnlike_law (a b : ByteArray) (ha : a.size ≤ 9223372036854775807) (_ : b.size ≤ 9223372036854775807) : Calls Try.prog 4 #[.string a, .string b] w fun e w' => e = .returned (.bool true) ∧ Below w.heap.size w w' := by
  have HL1 := Lib.hid (long_str a.size w)
  have HL2 := Lib.hid (long_str b.size w)
  by_cases hl : 2147483647 < a.size
  · rw [decide_eq_true hl] at HL1
    go_enter Try.func4, Try.ntmps4
    go_wp2_with fail
    refine HL1.out.mono ?_
    rintro e w' ⟨rfl, rfl⟩
    go_wp2_with fail
    go_ret
    exact ⟨rfl, Below.refl _ _⟩
  rw [decide_eq_false hl] at HL1
  by_cases hl2 : 2147483647 < b.size
  · rw [decide_eq_true hl2] at HL2
    go_enter Try.func4, Try.ntmps4
    go_wp2_with fail
    refine HL1.out.mono ?_
    rintro e w' ⟨rfl, rfl⟩
    go_wp2_with fail
    refine HL2.out.mono ?_
    rintro e w' ⟨rfl, rfl⟩
    go_wp2_with fail
    go_ret
    exact ⟨rfl, Below.refl _ _⟩
  rw [decide_eq_false hl2] at HL2
  have HN1 := Lib.hid (tname_any a w)
  have HN2 := Lib.hid fun W => tname_any b W
  unfold NameAns at HN1 HN2
  obtain ⟨is, his⟩ : ∃ q, Disk.hasTmp b.data.toList = q := ⟨_, rfl⟩
  simp only [his] at HN2
  obtain ⟨y, hy⟩ : ∃ y, baT (Disk.tmpOf b.data.toList) = y := ⟨_, rfl⟩
  simp only [hy] at HN2
  obtain ⟨ok, hok⟩ : ∃ q, Disk.hasTmp a.data.toList = q := ⟨_, rfl⟩
  cases ok
  case false =>
    have hx : baT (Disk.tmpOf a.data.toList) = ⟨#[]⟩ := by unfold Disk.tmpOf; rw [hok]; rfl
    rw [hok, hx] at HN1
    clear his hy hok hx
    go_enter Try.func4, Try.ntmps4
    go_wp2_with fail
    refine HL1.out.mono ?_
    rintro e w' ⟨rfl, rfl⟩
    go_wp2_with fail
    refine HL2.out.mono ?_
    rintro e w' ⟨rfl, rfl⟩
    go_wp2_with fail
    refine HN1.out.mono ?_
    rintro e w1 ⟨rfl, hb1⟩
    have HB1 := Lib.hid hb1
    clear hb1
    go_wp2_with fail
    refine (HN2.out w1).mono ?_
    rintro e w2 ⟨rfl, hb2⟩
    have HB2 := Lib.hid (HB1.out.trans (hb2.mono HB1.out.size))
    clear hb2
    go_wp2_with fail
    refine tworks_any.mono ?_
    rintro e w4 ⟨rfl, hb4⟩
    have HB4 := Lib.hid (HB2.out.trans (hb4.mono HB2.out.size))
    clear hb4
    go_wp2_with fail
    go_ret
    exact ⟨rfl, HB4.out⟩
  case true =>
    obtain ⟨x, hx⟩ : ∃ x, baT (Disk.tmpOf a.data.toList) = x := ⟨_, rfl⟩
    rw [hok, hx] at HN1
    have hxl : x.data.toList = Disk.tmpPre ++ a.data.toList := by rw [← hx]; unfold Disk.tmpOf; rw [hok]; rfl
    have hal : a.data.toList.length = a.size := Array.length_toList
    have hxs : x.size = a.size + 8 := by
      have h1 : x.data.toList.length = x.size := Array.length_toList
      rw [← h1, hxl, List.length_append, hal]
      simp [Disk.tmpPre]; omega
    have ha56 : a.size ≤ 56 := by have := (Disk.hasTmp_parts hok).2.1; omega
    obtain ⟨u1, u2⟩ := Disk.u_make hok
    rw [← hxl] at u1 u2
    have HI1 : Hid (∀ W, Calls Try.prog 9 #[.string x] W fun e w' => e = .returned (.bool true) ∧ W = w') := Lib.hid fun W => by have h := is_any x W; rw [hxl, Disk.isTmp_pre] at h; exact h
    have HI2 : Hid (∀ W, Calls Try.prog 9 #[.string a] W fun e w' => e = .returned (.bool false) ∧ W = w') := Lib.hid fun W => by have h := is_any a W; rw [(Disk.hasTmp_parts hok).2.2] at h; exact h
    have HN3 : Hid (∀ W, Calls Try.prog 7 #[.string x] W fun e w' => e = .returned (.tuple #[.string ⟨#[]⟩, .bool false]) ∧ Below W.heap.size W w') := Lib.hid fun W => by
      have h := tname_any x W
      unfold NameAns Disk.tmpOf at h
      rw [hxl, Disk.hasTmp_again] at h
      exact h
    have hcut0 : (x.extract 8 x.size).toList = a.toList := by
      rw [toL, toL, ByteArray.data_extract, Array.toList_extract, List.extract_eq_take_drop, hxl, hxs, show Disk.tmpPre ++ a.data.toList = Disk.tmpPre ++ a.data.toList from rfl, List.drop_append_of_le_length (by decide), show Disk.tmpPre.drop 8 = [] from rfl, List.nil_append, List.take_of_length_le (by omega)]
    have hcut : ((x.extract 8 (a.size + 8)).toList == a.toList) = true := by rw [← hxs, hcut0]; simp
    clear hcut0
    have hxy : is = true → ((x.toList == y.toList) = (a.toList == b.toList)) := by
      intro h
      subst h
      have hyl : y.data.toList = Disk.tmpPre ++ b.data.toList := by rw [← hy]; unfold Disk.tmpOf; rw [his]; rfl
      rw [toL, toL, toL, toL, hxl, hyl, Bool.eq_iff_iff, beq_iff_eq, beq_iff_eq]
      exact Disk.pre_inj
    have U1 := Lib.hid u1
    have U2 := Lib.hid u2
    have HFN := Lib.hid Disk.u_fine
    have HSM := Lib.hid Disk.u_small
    have HXY := Lib.hid hxy
    clear his hy hok hx hxl hal u1 u2 hxy
    go_enter Try.func4, Try.ntmps4
    go_wp2_with fail
    refine HL1.out.mono ?_
    rintro e w' ⟨rfl, rfl⟩
    go_wp2_with fail
    refine HL2.out.mono ?_
    rintro e w' ⟨rfl, rfl⟩
    go_wp2_with fail
    refine HN1.out.mono ?_
    rintro e w1 ⟨rfl, hb1⟩
    have HB1 := Lib.hid hb1
    clear hb1
    go_wp2_with fail
    refine (HN2.out w1).mono ?_
    rintro e w2 ⟨rfl, hb2⟩
    have HB2 := Lib.hid (HB1.out.trans (hb2.mono HB1.out.size))
    clear hb2
    go_wp2_with fail
    refine (new_any 1).mono ?_
    rintro e w3 (⟨h1, -, -⟩ | ⟨-, d, rfl, h2, h3⟩)
    · exact absurd Disk.u_from h1
    have K1 : Hid (Kd w w3 (btw w2.heap.size w3.heap.size) d Disk.u0) := Lib.hid ⟨h2, HB2.out.trans (h3.mono HB2.out.size), fun b hb => Nat.le_trans HB2.out.size hb.1⟩
    clear h2 h3
    go_wp2_with fail
    refine (make_any x (by simp only [maxLen]; omega) (Lib.hid K1.out.at_) HFN HSM (by omega)).mono ?_
    rintro e w4 hc
    obtain ⟨he, hk⟩ := K1.out.call hc
    have he2 : e = .returned (.int .i64 0) := he.trans (by rw [U1.out])
    subst he2
    have K2 := Lib.hid hk
    have HFN1 := Lib.hid (Disk.fine_act HFN.out (.make x.data.toList))
    have HSM1 := Lib.hid (Disk.small_act HSM.out (.make x.data.toList))
    clear hc he hk
    go_wp2_with fail
    refine (make_any a (by simp only [maxLen]; omega) (Lib.hid K2.out.at_) HFN1 HSM1 (by omega)).mono ?_
    rintro e w5 hc
    obtain ⟨he, hk⟩ := K2.out.call hc
    have he2 : e = .returned (.int .i64 0) := he.trans (by rw [U2.out])
    subst he2
    have HB5 := Lib.hid hk.below
    clear hc he hk K1 K2 HFN1 HSM1
    go_wp2_with fail
    refine (HI1.out w5).mono ?_
    rintro e w' ⟨rfl, rfl⟩
    go_wp2_with fail
    refine (HI2.out w5).mono ?_
    rintro e w' ⟨rfl, rfl⟩
    go_wp2_with fail
    refine (HN3.out w5).mono ?_
    rintro e w6 ⟨rfl, hb6⟩
    have HB6 := Lib.hid (HB5.out.trans (hb6.mono HB5.out.size))
    clear hb6
    obtain ⟨q1, hq1⟩ : ∃ q, (x.toList == y.toList) = q := ⟨_, rfl⟩
    obtain ⟨q2, hq2⟩ : ∃ q, (a.toList == b.toList) = q := ⟨_, rfl⟩
    have HQ : Hid (is = true → q1 = q2) := Lib.hid fun h => by rw [← hq1, ← hq2]; exact HXY.out h
    clear HXY
    cases is
    case false =>
      go_wp2_with fail
      refine tworks_any.mono ?_
      rintro e w7 ⟨rfl, hb7⟩
      have HB7 := Lib.hid (HB6.out.trans (hb7.mono HB6.out.size))
      clear hb7
      go_wp2_with fail
      go_ret
      exact ⟨rfl, HB7.out⟩
    case true =>
      obtain rfl := HQ.out rfl
      go_wp2_with fail
      refine tworks_any.mono ?_
      rintro e w7 ⟨rfl, hb7⟩
      have HB7 := Lib.hid (HB6.out.trans (hb7.mono HB6.out.size))
      clear hb7
      go_wp2_with fail
      go_ret
      exact ⟨rfl, HB7.out⟩
end
end Go.Proofs.Ytncpeogkccjmcaa
