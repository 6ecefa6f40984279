/- The walk of the law WordsParts. Condition: room. -/
import Derived.Test.YtooempbgpfhdcaaWritten
import Derived.Test.YtooempbgpfhdcaaRight
import Derived.Test.YtooempbgpfhdcaaEqMarks
import Derived.Test.YtooempbgpfhdcaaCopyBytes
namespace Go.Proofs.Ytooempbgpfhdcaa
open Go.RowKit Go.ChangeShapes Go.WideShapes Go.Deep

theorem writ_ge : ∀ l : List Words.Mk, l.length ≤ (Words.writ l).length
  | [] => by simp
  | x :: r => by
    have := writ_ge r
    simp only [Words.writ, List.length_append, List.length_cons]
    split <;> simp <;> omega
/-- Part at marks that were written. -/
theorem part_both (w : World) (g n c p : Nat) (A : Option Addr) (T : List UInt8) (d : UInt8) (ends : Bool) (l : List Words.Mk) (behind : List UInt8) (h : Hid (Wd w g A n c T p)) (hT : Hid (T.drop p = Words.writ l ++ d :: behind)) (hb : n ≤ 1099511627776) :
    Calls Try.prog 10 #[.pointer (some ⟨g, 0, none⟩), .int .u8 d.toNat, .bool ends] w fun e w' =>
      (e = .returned (.tuple #[.slice none 0 0, .int .i64 70]) ∧ Hid ((Words.right d ends l && (d != 92 && d != 10)) = false) ∧ Hid (Wd w' g A n c T p) ∧ Hid (Only (fun b => b = g) w w')) ∨
      (∃ v m t, e = .returned (.tuple #[v, .int .i64 0]) ∧ Hid (Own Rep.mark 43 w' w.heap.size nob v m) ∧ Hid (Wd w' g A n c T (n - t.length)) ∧ Hid (Only (fun b => b = g) w w') ∧ Hid (Words.writ l ++ d :: behind = Words.writ m ++ d :: t) ∧
        Hid ((Words.right d ends m && (d != 92 && d != 10)) = true) ∧ Hid ((Words.right d ends l && (d != 92 && d != 10)) = true → m = l ∧ t = behind)) := by
  by_cases hd1 : d = 92
  · refine (part_bad w g n c p A T d ends h (.inl hd1)).mono ?_
    rintro e w' ⟨rfl, rfl⟩
    exact .inl ⟨rfl, Lib.hid (by simp [hd1]), h, Lib.hid (Only.refl _ _)⟩
  · by_cases hd2 : d = 10
    · refine (part_bad w g n c p A T d ends h (.inr hd2)).mono ?_
      rintro e w' ⟨rfl, rfl⟩
      exact .inl ⟨rfl, Lib.hid (by simp [hd2]), h, Lib.hid (Only.refl _ _)⟩
    · have hdd : (d != 92 && d != 10) = true := by simp [hd1, hd2]
      have HP := part_any w g n c p A T d ends h (Lib.hid hd1) (Lib.hid hd2) hb
      rw [hT.out] at HP
      rw [hdd]
      simp only [Bool.and_true]
      have hof := Words.part_of d ends hd1 hd2 behind l.length l (Nat.le_refl _)
      have hto := fun m t => Words.of_part d ends (Words.writ l ++ d :: behind).length (Words.writ l ++ d :: behind) m t (Nat.le_refl _)
      generalize Words.part d ends (Words.writ l ++ d :: behind) = r at HP hof hto
      cases r with
      | none =>
        refine HP.mono ?_
        rintro e w' ⟨rfl, HW, HO⟩
        refine .inl ⟨rfl, Lib.hid ?_, HW, HO⟩
        cases hr : Words.right d ends l with
        | false => rfl
        | true => cases hof hr
      | some x =>
        obtain ⟨m, t⟩ := x
        refine HP.mono ?_
        rintro e w' ⟨v, rfl, HM, HW, HO⟩
        obtain ⟨h1, h2⟩ := hto m t rfl
        refine .inr ⟨v, m, t, rfl, HM, HW, HO, Lib.hid h2, Lib.hid h1, Lib.hid fun hr => ?_⟩
        have := hof hr
        simp only [Option.some.injEq, Prod.mk.injEq] at this
        exact this
set_option maxRecDepth 100000 in
set_option maxHeartbeats 8000000 in
theorem wordsParts_any (A1 A2 A3 : Option Addr) (n1 c1 n2 c2 n3 c3 : Nat) (ahead behind : List UInt8) (l : List Words.Mk) (d : UInt8) (ends : Bool) (w : World) (hb1 : n1 ≤ 140737488355328) (hb2 : n2 ≤ 140737488355328) (hb3 : n3 ≤ 140737488355328)
    (hn1 : Hid (n1 = ahead.length)) (ha : Hid (SliceAt Rep.byte w (under w.heap.size) A1 c1 ahead)) (hn2 : Hid (n2 = behind.length)) (hbe : Hid (SliceAt Rep.byte w (under w.heap.size) A2 c2 behind)) (hn3 : Hid (n3 = l.length)) (hl : Hid (SliceAt Rep.mark w (under w.heap.size) A3 c3 l)) :
    Calls Try.prog 3 #[.slice A1 n1 c1, .slice A2 n2 c2, .slice A3 n3 c3, .int .u8 d.toNat, .bool ends] w fun e' w' => e' = .returned (.bool true) ∧ Below w.heap.size w w' := by
  have hnc1 := ha.out.len
  have hcm1 := ha.out.max
  rw [← hn1.out] at hnc1
  have hnc2 := hbe.out.len
  have hcm2 := hbe.out.max
  rw [← hn2.out] at hnc2
  have hnc3 := hl.out.len
  have hcm3 := hl.out.max
  rw [← hn3.out] at hnc3
  go_enter Try.func3, Try.ntmps3
  go_wp2_with fail
  refine (works19_any w).mono ?_
  rintro e w1 ⟨rfl, hb1'⟩
  have HB1 := Lib.hid hb1'
  clear hb1'
  by_cases hbig : 16777216 < n1 + n2 + n3
  · have d1 : decide ((16777216 : Int) < (n1 : Int) + n2 + n3) = true := decide_eq_true (by omega)
    go_wp2_with fail
    go_ret
    exact ⟨rfl, HB1.out⟩
  have d1 : decide ((16777216 : Int) < (n1 : Int) + n2 + n3) = false := decide_eq_false (by omega)
  have hsum : n1 + n2 + n3 ≤ 16777216 := by omega
  clear hbig hb1 hb2 hb3
  have HA1 := Lib.hid (ha.out.keep (fun _ h => h) fun b hb => HB1.out.block b hb : SliceAt Rep.byte w1 (under w.heap.size) A1 c1 ahead)
  go_wp2_with fail
  clear d1
  refine (copyBytes A1 n1 c1 ahead w1 _ hn1.out HA1.out (by omega)).mono ?_
  rintro e w2 ⟨v12, rfl, ho12, hb2⟩
  obtain ⟨A12, n12, c12, rfl, hn12, hnc12, hcm12⟩ := ho12.form
  have HO12 := Lib.hid ho12
  have HB2 := Lib.hid (HB1.out.trans (hb2.mono HB1.out.size))
  have HS12 := Lib.hid hb2.size
  clear ho12 hb2 HA1
  have HL2 := Lib.hid (hl.out.keep (fun b h => Nat.lt_of_lt_of_le h HB2.out.size) fun b hb => HB2.out.block b hb : SliceAt Rep.mark w2 (under w2.heap.size) A3 c3 l)
  go_wp2_with fail
  refine (written_any A3 n3 c3 l w2 hn3 HL2 (by omega)).mono ?_
  rintro e w3 ⟨v13, rfl, HO13, hb3⟩
  obtain ⟨A13, n13, c13, rfl, hn13, hnc13, hcm13⟩ := HO13.out.form
  have HB3 := Lib.hid (HB2.out.trans (hb3.out.mono HB2.out.size))
  have HO3 := Lib.hid (HO12.out.far hb3.out)
  have HS13 := Lib.hid HO13.out.slot
  have HS3 := Lib.hid (Nat.le_trans HS12.out hb3.out.size)
  have HL12 : Hid (ahead.length ≤ 16777216) := Lib.hid (by have := hn1.out; omega)
  have HLW : Hid ((Words.writ l).length ≤ 33554432) := Lib.hid (by have := writ_len l; have := hn3.out; omega)
  have HLB : Hid (behind.length ≤ 16777216) := Lib.hid (by have := hn2.out; omega)
  have hn13b : n13 ≤ 33554432 := by have := hn13.out; have := HLW.out; omega
  have hn12b : n12 ≤ 16777216 := by have := hn12.out; have := HL12.out; omega
  clear HO12 hb3 HL2 HB2 HO13 HS12
  go_upto_region 7 with (at_builtin; refine wpList_append_Own _ rfl (.tmp 35) (.tmp 36) 22 rfl Rep.byte w1.heap.size 5 1 stBytes nob (.slice A12 n12 c12) ahead rfl HO3.out (under w3.heap.size) _ _ (Words.writ l) (by rw [hn13.out]; rfl) HS13.out nob (fun _ h => h.elim) (fun _ h => h) (fun _ _ h => h) (by have := HL12.out; have := HLW.out; omega) (by have := HL12.out; have := HLW.out; omega) HS3.out ?_; intro v4 w4 hown4 hg4 hat4; obtain ⟨A4, n4, c4, rfl, hn4, hnc4, hcm4⟩ := hown4.form; have HB4 := Lib.hid (below_own2 HB3.out HO3.out HB1.out.size hg4 HB3.out.size); have HS4 := Lib.hid (Nat.le_trans HS3.out hg4.size); have HO4 := Lib.hid hown4; clear hown4 hg4 hat4)
  have hn4b : n4 ≤ 50331648 := by have h1 := hn4.out; have := HL12.out; have := HLW.out; rw [List.length_append] at h1; omega
  clear HO3 HB3 HS13 HS3 hnc12 hcm12
  go_upto_region 8 with (at_builtin; refine wpList_append_Own _ rfl (.tmp 38) (.tmp 40) 22 rfl Rep.byte w1.heap.size 5 1 stBytes nob (.slice A4 n4 c4) _ rfl (HO4.out.alloc _) (under (w4.heap.size + 1)) _ _ [d] rfl (byteNew' w4 _ d rfl _ (Nat.lt_succ_self _)) nob (fun _ h => h.elim) (fun _ h => h) (fun _ _ h => h) (by have := HL12.out; have := HLW.out; simp only [List.length_append, List.length_cons, List.length_nil]; omega) (by have := HL12.out; have := HLW.out; simp only [List.length_append, List.length_cons, List.length_nil]; omega) (by have := HS4.out; simp; omega) ?_; intro v5 w5 hown4 hg4 hat4; obtain ⟨A5, n5, c5, rfl, hn5, hnc5, hcm5⟩ := hown4.form; have HB5 := Lib.hid (below_own2 (HB4.out.alloc HB4.out.size _) (HO4.out.alloc _) HB1.out.size hg4 (by have := HB4.out.size; simp; omega)); have HS5 := Lib.hid (Nat.le_trans HS4.out (Nat.le_trans (Nat.le_succ _) (by have := hg4.size; simp at this; exact this))); have HO5 := Lib.hid hown4; clear hown4 hg4 hat4)
  have hn5b : n5 ≤ 50331649 := by have h1 := hn5.out; have := HL12.out; have := HLW.out; simp only [List.length_append, List.length_cons, List.length_nil] at h1; omega
  have HBE5 := Lib.hid (hbe.out.keep (fun b h => Nat.lt_of_lt_of_le h HB5.out.size) fun b hb => HB5.out.block b hb : SliceAt Rep.byte w5 (under w5.heap.size) A2 c2 behind)
  clear HO4 HB4 HS4 hnc4 hcm4 hn4 hn4b
  go_upto_region 9 with (at_builtin; refine wpList_append_Own _ rfl (.tmp 42) (.tmp 43) 22 rfl Rep.byte w1.heap.size 5 1 stBytes nob (.slice A5 n5 c5) _ rfl HO5.out (under w5.heap.size) _ _ behind (by rw [hn2.out]; rfl) HBE5.out nob (fun _ h => h.elim) (fun _ h => h) (fun _ _ h => h) (by have := HL12.out; have := HLW.out; have := HLB.out; simp only [List.length_append, List.length_cons, List.length_nil]; omega) (by have := HL12.out; have := HLW.out; have := HLB.out; simp only [List.length_append, List.length_cons, List.length_nil]; omega) HS5.out ?_; intro v6 w6 hown4 hg4 hat4; obtain ⟨A6, n6, c6, rfl, hn6, hnc6, hcm6⟩ := hown4.form; have HB6 := Lib.hid (below_own2 HB5.out HO5.out HB1.out.size hg4 HB5.out.size); have HO6 := Lib.hid hown4; clear hown4 hg4 hat4)
  have hn6b : n6 ≤ 67108865 := by have h1 := hn6.out; have := HL12.out; have := HLW.out; have := HLB.out; simp only [List.length_append, List.length_cons, List.length_nil] at h1; omega
  clear HO5 HB5 HS5 HBE5 hnc5 hcm5 hn5 hn5b
  obtain ⟨T, hT⟩ : ∃ T, T = ahead ++ (Words.writ l ++ d :: behind) := ⟨_, rfl⟩
  rw [show ahead ++ Words.writ l ++ [d] ++ behind = T by rw [hT]; simp] at hn6 HO6
  have HT := Lib.hid hT
  have HTS := Lib.hid HO6.out.slot
  have hn16 : n1 ≤ n6 := by rw [hn6.out, hT, List.length_append, hn1.out]; omega
  clear hT HO6
  go_wp2_with fail
  refine (new_any A6 n6 c6 T w6 _ hn6 HTS (by omega)).mono ?_
  rintro e w7 ⟨g, A7, c7, rfl, hg7, HW7, hb7⟩
  have HG := Lib.hid hg7
  clear hg7
  go_wp2_with fail
  go_loopg [15] n1 (fun j v15 wr => ∃ (i : Nat), i ≤ n1 ∧ j = n1 - i ∧ v15 = .int .i64 i ∧ Hid (Wd wr g A7 n6 c7 T i) ∧ Hid (Below w6.heap.size w6 wr))
  case atStart => exact ⟨0, Nat.zero_le _, rfl, rfl, HW7, hb7⟩
  case round =>
    obtain ⟨i, hi, rfl, rfl, HW, HB⟩ := hrel
    clear HW7 hb7
    by_cases hlt : i < n1
    · have hil : i < T.length := by have := hn6.out; omega
      have HTK := Lib.hid (take_yes wr g n6 c7 i A7 T HW hil)
      have hii : (i : Int) < (n1 : Int) := by omega
      go_wp2_with fail
      refine HTK.out.mono ?_
      rintro e wt ⟨rfl, HWt, ho⟩
      have HBt := Lib.hid (HB.out.trans (ho.out.one HB.out.size HG.out))
      clear HTK ho HW HB
      go_wp2_with fail
      go_roundg (n1 - (i + 1))
      case measure => omega
      case rel => exact ⟨i + 1, by omega, rfl, by go_num, HWt, HBt⟩
    · obtain rfl : i = n1 := by omega
      have hdrop : T.drop i = Words.writ l ++ d :: behind := by rw [HT.out, hn1.out, List.drop_left]
      have HPB := Lib.hid (part_both wr g n6 c7 i A7 T d ends l behind HW (Lib.hid hdrop) (by omega))
      clear hdrop hlt
      go_wp2_with fail
      refine HPB.out.mono ?_
      clear HPB HW
      rintro e w8 (⟨rfl, HR, HW8, HO8⟩ | ⟨v, m, t, rfl, HM, HW8, HO8, HE, HRM, HI⟩)
      · have HB68 := Lib.hid (HB.out.trans (HO8.out.one HB.out.size HG.out))
        have HB8 := Lib.hid (HB6.out.trans (HB68.out.mono HB6.out.size))
        have HL8 := Lib.hid (hl.out.keep (fun b h => Nat.lt_of_lt_of_le h HB8.out.size) fun b hb => HB8.out.block b hb : SliceAt Rep.mark w8 (under w8.heap.size) A3 c3 l)
        clear HO8 HB
        go_wp2_with fail
        refine (right_any A3 n3 c3 l d ends w8 hn3 HL8).mono ?_
        rintro e w9 ⟨rfl, hb9⟩
        have HW9 := Lib.hid (HW8.out.far hb9.out)
        have HB9 := Lib.hid (HB8.out.trans (hb9.out.mono HB8.out.size))
        rw [HR.out]
        clear hb9 HB8 HL8 HW8 HB68
        go_wp2_with fail
        refine (at_any w9 _ _ _ _ _ _ HW9).mono ?_
        rintro e w10 ⟨rfl, rfl⟩
        go_wp2_with fail
        go_ret
        exact ⟨rfl, HB9.out⟩
      · obtain ⟨A8, n8, c8, rfl, hn8, hnc8, hcm8⟩ := HM.out.form
        have HB68 := Lib.hid (HB.out.trans (HO8.out.one HB.out.size HG.out))
        have HB8 := Lib.hid (HB6.out.trans (HB68.out.mono HB6.out.size))
        have HL8 := Lib.hid (hl.out.keep (fun b h => Nat.lt_of_lt_of_le h HB8.out.size) fun b hb => HB8.out.block b hb : SliceAt Rep.mark w8 (under w8.heap.size) A3 c3 l)
        have HM8 := Lib.hid HM.out.slot
        have HT8 := Lib.hid (HTS.out.keep (fun _ h => h) fun b hb => HB68.out.block b hb : SliceAt Rep.byte w8 (under w6.heap.size) A6 c6 T)
        have HS68 := Lib.hid HB68.out.size
        obtain ⟨rb, hrb⟩ : ∃ rb, rb = (Words.right d ends l && (d != 92 && d != 10)) := ⟨_, rfl⟩
        rw [← hrb] at HI
        have HRB := Lib.hid hrb
        obtain ⟨k, hk⟩ : ∃ k, k = (Words.writ m).length := ⟨_, rfl⟩
        have hTl : n6 = i + k + 1 + t.length := by
          have h1 := congrArg List.length HT.out
          rw [HE.out] at h1
          simp only [List.length_append, List.length_cons] at h1
          rw [hn6.out, h1, hk, hn1.out]
          omega
        obtain ⟨tz, hto⟩ : ∃ tz, tz = n6 - t.length := ⟨_, rfl⟩
        rw [← hto] at HW8
        obtain ⟨q, hq⟩ : ∃ q, q = i + k := ⟨_, rfl⟩
        have hto2 : tz = q + 1 := by omega
        have hqi : (tz : Int) - 1 = (q : Int) := by omega
        have hqn : q < n6 := by omega
        have hto6 : tz ≤ n6 := by omega
        have hiq : i ≤ q := by omega
        have HK := Lib.hid hk
        have HQ := Lib.hid hq
        have HTO := Lib.hid hto2
        have HTL := Lib.hid hTl
        clear hrb hk hq hto hto2 hTl HO8 HB HB68 HM
        go_upto_region 15 with fail
        go_cut [86] from 62 (fun v86 wc => v86 = .bool false ∧ Hid (Below w8.heap.size w8 wc))
        case first =>
          have HRA := Lib.hid (right_any A3 n3 c3 l d ends w8 hn3 HL8)
          rw [← HRB.out] at HRA
          cases rb with
          | false =>
            go_wp2_with fail
            refine HRA.out.mono ?_
            rintro e w9 ⟨rfl, hb9⟩
            go_wp2_with fail
            go_meet
            case rel => exact ⟨rfl, hb9⟩
          | true =>
            obtain ⟨rfl, rfl⟩ := HI.out rfl
            have hk13 : k = n13 := by rw [HK.out, hn13.out]
            have hq2 : ((tz : Int) != (i : Int) + n13 + 1) = false := by rw [bne_eq_false_iff_eq]; have := HTO.out; have := HQ.out; omega
            clear hk13
            go_wp2_with fail
            refine HRA.out.mono ?_
            rintro e w9 ⟨rfl, hb9⟩
            have HEQ : Hid (Calls Try.prog 12 #[.slice A8 n8 c8, .slice A3 n3 c3] w9 fun e w' => e = .returned (.bool (decide (m = m))) ∧ ∃ n, w' = w9.drewN n) := Lib.hid (by
              rw [hn8.out, hn3.out]
              exact eqMarks A8 A3 c8 c3 m m w9 (under w8.heap.size) (under w8.heap.size) (HM8.out.keep (fun _ h => h) fun b hb => hb9.out.block b hb) (HL8.out.keep (fun _ h => h) fun b hb => hb9.out.block b hb))
            rw [decide_eq_true (rfl : m = m)] at HEQ
            have HW9 := Lib.hid (HW8.out.far hb9.out)
            clear HRA
            go_wp2_with fail
            refine HEQ.out.mono ?_
            rintro e w10 ⟨rfl, nd, rfl⟩
            have HW10 := Lib.hid (HW9.out.far (below_drewN w9 nd))
            clear HEQ
            go_wp2_with fail
            refine (at_any _ _ _ _ _ _ _ HW10).mono ?_
            rintro e w11 ⟨rfl, rfl⟩
            go_wp2_with fail
            go_meet
            case rel => exact ⟨rfl, Lib.hid (hb9.out.trans ((below_drewN w9 nd).mono hb9.out.size))⟩
        case rest =>
          obtain ⟨rfl, hbc⟩ := hcut
          have HWc := Lib.hid (HW8.out.far hbc.out)
          have HMc := Lib.hid (HM8.out.keep (fun b h => Nat.lt_of_lt_of_le h hbc.out.size) fun b hb => hbc.out.block b hb : SliceAt Rep.mark wc (under wc.heap.size) A8 c8 m)
          have HTc := Lib.hid (HT8.out.keep (fun b h => Nat.lt_of_lt_of_le h (Nat.le_trans HS68.out hbc.out.size)) fun b hb => hbc.out.block b (Nat.lt_of_lt_of_le hb HS68.out) : SliceAt Rep.byte wc (under wc.heap.size) A6 c6 T)
          have HBc := Lib.hid (HB8.out.trans (hbc.out.mono HB8.out.size))
          clear hbc HW8 HM8 HT8 HB8 HL8
          have hn8b : n8 ≤ 1099511627776 := by have := writ_ge m; have := HK.out; have := HTL.out; have := hn8.out; omega
          go_wp2_with fail
          refine (written_any A8 n8 c8 m wc hn8 HMc hn8b).mono ?_
          rintro e w9 ⟨v18, rfl, HO18, hb9⟩
          obtain ⟨A18, n18, c18, rfl, hn18, hnc18, hcm18⟩ := HO18.out.form
          have HW9 := Lib.hid (HWc.out.far hb9.out)
          have HM9 := Lib.hid (HMc.out.keep (fun b h => Nat.lt_of_lt_of_le h hb9.out.size) fun b hb => hb9.out.block b hb : SliceAt Rep.mark w9 (under w9.heap.size) A8 c8 m)
          have HT9 := Lib.hid (HTc.out.keep (fun b h => Nat.lt_of_lt_of_le h hb9.out.size) fun b hb => hb9.out.block b hb : SliceAt Rep.byte w9 (under w9.heap.size) A6 c6 T)
          have HB9 := Lib.hid (HBc.out.trans (hb9.out.mono HBc.out.size))
          have HS18 := Lib.hid HO18.out.slot
          clear hb9 HWc HMc HTc HBc HO18
          go_wp2_with fail
          refine (at_any _ _ _ _ _ _ _ HW9).mono ?_
          rintro e w10 ⟨rfl, rfl⟩
          have hqT : q < T.length := by rw [← hn6.out]; exact hqn
          have hTq : T[q] = d := by
            have h1 : T = (ahead ++ Words.writ m) ++ d :: t := by rw [HT.out, HE.out]; simp
            have h2 : q = (ahead ++ Words.writ m).length := by rw [HQ.out, List.length_append, ← HK.out, hn1.out]
            simp only [h1]
            subst h2
            simp
          have hTcut : (T.take q).drop i = Words.writ m := by
            have h1 : T = (ahead ++ Words.writ m) ++ d :: t := by rw [HT.out, HE.out]; simp
            have h2 : q = (ahead ++ Words.writ m).length := by rw [HQ.out, List.length_append, ← HK.out, hn1.out]
            rw [h1, h2, List.take_left, hn1.out, List.drop_left]
          have HCUT := Lib.hid hTcut
          have HT9c := Lib.hid (HT9.out.cutA (s := 1) hiq (Nat.le_of_lt hqT) rfl)
          rw [hTcut] at HT9c
          obtain ⟨gT, oT, rfl, hgT, hcT⟩ := HT9.out.byte hqT
          rw [hTq] at hcT
          have hslt := fun W => run_slice_both (P := Try.prog) W stBytes (some ⟨gT, oT, none⟩) n6 c6 i q hiq (by omega)
          have hqn2 : (q : Int) < (n6 : Int) := by omega
          have hq0 : (0 : Int) ≤ (q : Int) := Int.natCast_nonneg _
          have t1 : decide ((tz : Int) ≤ (n6 : Int)) = true := decide_eq_true (by omega)
          have t2 : decide ((i : Int) + 1 ≤ (tz : Int)) = true := decide_eq_true (by have := HTO.out; omega)
          have HRA := Lib.hid (right_any A8 n8 c8 m d ends w9 hn8 HM9)
          rw [HRM.out] at HRA
          have hlen : q - i = (Words.writ m).length := by rw [← HK.out, HQ.out]; omega
          have HLEN := Lib.hid hlen
          clear hlen hTq hTcut hqT
          go_wp2_with fail
          refine HRA.out.mono ?_
          rintro e w10 ⟨rfl, hb10⟩
          have HEQ : Hid (Calls Try.prog 14 #[.slice A18 n18 c18, .slice (cutA (some ⟨gT, oT, none⟩) c6 i 1) (q - i) (c6 - i)] w10 fun e w' => e = .returned (.bool (decide (Words.writ m = Words.writ m))) ∧ ∃ n, w' = w10.drewN n) := Lib.hid (by
            rw [hn18.out, HLEN.out]
            exact eqBytes A18 _ c18 _ _ _ w10 (under w9.heap.size) (under w9.heap.size) (HS18.out.keep (fun _ h => h) fun b hb => hb10.out.block b hb) (HT9c.out.keep (fun _ h => h) fun b hb => hb10.out.block b hb))
          rw [decide_eq_true (rfl : Words.writ m = Words.writ m)] at HEQ
          have HB10 := Lib.hid (HB9.out.trans (hb10.out.mono HB9.out.size))
          clear HRA hb10
          go_wp2_with fail
          refine HEQ.out.mono ?_
          rintro e w11 ⟨rfl, nd, rfl⟩
          go_wp2_with fail
          go_ret
          exact ⟨rfl, HB10.out.trans ((below_drewN w10 nd).mono HB10.out.size)⟩
end Go.Proofs.Ytooempbgpfhdcaa
