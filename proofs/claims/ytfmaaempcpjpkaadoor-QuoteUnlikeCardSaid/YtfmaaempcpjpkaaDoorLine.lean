/- A diagnostic: the walks of Line, the program's and the document's. Conditions: the tables lie as they are laid; the name has at most 2^32 bytes. -/
import Derived.Test.YtfmaaempcpjpkaaDoorWord
import Derived.Test.YtfmaaempcpjpkaaDoorQuote5
import Derived.Test.YtfmaaempcpjpkaaDoorQuoteShow
import Derived.Lib.ConvBytes
namespace Go.Proofs.YtfmaaempcpjpkaaDoor
open Go.RowKit Go.Deep

def lineL (e a : Int) (x : List UInt8) : List UInt8 := [103, 97, 108, 108, 101, 121, 58, 32] ++ Quote.wordL e ++ (if 0 ≤ a then [32, 97, 116, 32] ++ Lib.itoa a else []) ++ (if x = [] then [] else [58, 32] ++ Quote.show_ x)
theorem bytesSlice (w : World) (e : TypeId) (s : ByteArray) (h : s.size ≤ maxLen) : SliceAt Rep.byte (Lib.bytesWorld w e s) (under (w.heap.size + 1)) (some ⟨w.heap.size, 0, none⟩) (grownCap w s.size 0 e) s.data.toList := by
  have hl : s.data.toList.length = s.size := by rw [Array.length_toList]; rfl
  refine ⟨by rw [hl]; exact grownCap_ge _ _ _ _, grownCap_le_maxLen _ _ _ _ h, by simp, fun i hi => ⟨w.heap.size, 0, [.int .u8 s.data.toList[i].toNat], rfl, Nat.lt_succ_self _, fun j u hj => ?_, rfl⟩⟩
  cases j with
  | succ j => simp at hj
  | zero =>
    simp only [List.getElem?_cons_zero, Option.some.injEq] at hj
    subst hj
    have h9 := Lib.bytesWorld_cell w e s i (by omega)
    rw [List.getD_eq_getElem?_getD, List.getElem?_eq_getElem hi] at h9
    have e1 : 0 + i * Rep.byte.n + 0 = i := by show 0 + i * 1 + 0 = i; omega
    rw [e1]
    exact h9
theorem show_len (l : List UInt8) : (Quote.show_ l).length ≤ 4 * l.length + 2 := by
  have h : ∀ (n : Nat) (l : List UInt8), l.length ≤ n → (Quote.body l).length ≤ 4 * l.length := by
    intro n
    induction n with
    | zero => intro l hl; obtain rfl : l = [] := List.eq_nil_of_length_eq_zero (by omega); simp [Quote.body_nil]
    | succ n ih =>
      intro l hl
      cases l with
      | nil => simp [Quote.body_nil]
      | cons a r =>
        by_cases hc : 0 < Quote.sz (a :: r) ∧ Quote.fair (a :: r) (Quote.sz (a :: r)) = true
        · rw [Quote.body_fair hc.1 hc.2, List.length_append]
          have := ih ((a :: r).drop (Quote.sz (a :: r))) (by rw [List.length_drop]; simp at hl ⊢; omega)
          rw [List.length_drop] at this
          rw [List.length_take]
          have := Quote.sz_le (a :: r)
          omega
        · rw [Quote.body_esc hc, List.length_append]
          have := ih r (by simp at hl; omega)
          have := esc_len a
          simp only [List.length_cons]
          omega
  have := h l.length l (Nat.le_refl _)
  unfold Quote.show_
  simp only [List.length_cons, List.length_append, List.length_nil]
  omega
set_option maxRecDepth 100000 in
set_option maxHeartbeats 16000000 in
theorem lineP_any (e a : Int) (x : ByteArray) (w : World) (he0 : -9223372036854775808 ≤ e) (he1 : e ≤ 9223372036854775807) (ha0 : -9223372036854775808 ≤ a) (ha1 : a ≤ 9223372036854775807) (hx : x.size ≤ 4294967296) (hT : Hid (Pow10 w)) (hW : Hid (Words w)) :
    Calls Tryd.prog 18 #[.agg #[.int .i64 e, .int .i64 a, .string x]] w fun r w' => ∃ y, r = .returned (.string y) ∧ Hid (y.data.toList = lineL e a x.data.toList) ∧ Hid (Below w.heap.size w w') := by
  have hil := Lib.itoa_length_le a ha0 ha1
  have hwl := Quote.word_len e he0 he1
  obtain ⟨s1, hs1⟩ : ∃ s1 : ByteArray, s1 = Quote.wordB e := ⟨_, rfl⟩
  have HS1 : Hid (s1.data.toList = Quote.wordL e) := Lib.hid (by rw [hs1]; rfl)
  have hz1 : s1.size ≤ 30 := by rw [hs1]; show (Quote.wordL e).toArray.size ≤ 30; rw [List.size_toArray]; exact hwl
  obtain ⟨W0, hW0⟩ : ∃ W0, W0 = w.alloc (.cells #[.int .i64 e, .int .i64 a, .string x] 55) := ⟨_, rfl⟩
  have HBW : Hid (Below w.heap.size w W0) := Lib.hid (by rw [hW0]; exact (Below.refl _ _).alloc (Nat.le_refl _) _)
  have hws : W0.heap.size = w.heap.size + 1 := by rw [hW0]; simp
  have HX1 : Hid (W0.cell? ⟨w.heap.size, 1, none⟩ = some (.int .i64 a)) := Lib.hid (by rw [hW0]; simp)
  have HX2 : Hid (W0.cell? ⟨w.heap.size, 2, none⟩ = some (.string x)) := Lib.hid (by rw [hW0]; simp)
  have HWD := Lib.hid (wordP_any e W0 he0 he1 (Lib.hid (hT.out.below HBW.out)) (Lib.hid (hW.out.below HBW.out)))
  rw [← hs1] at HWD
  clear hs1 hwl
  have HIL := Lib.hid hil
  clear hil
  go_enter Tryd.func18, Tryd.ntmps18
  go_upto_region 2 with (go_at_call 16; rw [← hW0]; refine HWD.out.mono ?_; rintro r w1 ⟨rfl, HB1⟩)
  have HBA : Hid (Below w.heap.size w w1) := Lib.hid (HBW.out.trans (HB1.out.mono (by omega)))
  have HY1 : Hid (w1.cell? ⟨w.heap.size, 1, none⟩ = some (.int .i64 a)) := Lib.hid ((HB1.out.cell (p := ⟨w.heap.size, 1, none⟩) (by show w.heap.size < _; omega)).trans HX1.out)
  have HY2 : Hid (w1.cell? ⟨w.heap.size, 2, none⟩ = some (.string x)) := Lib.hid ((HB1.out.cell (p := ⟨w.heap.size, 2, none⟩) (by show w.heap.size < _; omega)).trans HX2.out)
  have hsz1 : w.heap.size + 1 ≤ w1.heap.size := by have := HB1.out.size; omega
  clear hW0 HX1 HX2 HB1 HBW
  obtain ⟨y1, hy1⟩ : ∃ y1 : ByteArray, (⟨#[103, 97, 108, 108, 101, 121, 58, 32]⟩ : ByteArray) ++ s1 = y1 := ⟨_, rfl⟩
  have HYL : Hid (y1.data.toList = [103, 97, 108, 108, 101, 121, 58, 32] ++ Quote.wordL e) := Lib.hid (by rw [← hy1, ByteArray.data_append, Array.toList_append, HS1.out])
  have hyz : y1.size ≤ 38 := by rw [← hy1, ByteArray.size_append]; show 8 + _ ≤ _; omega
  try rw [hy1]
  clear hy1
  have hr1 := HY1.out
  go_upto_if 10 with fail
  go_cut [3] from 10 (fun v3 wc => ∃ y, v3 = .string y ∧ y.size ≤ 100 ∧ Hid (y.data.toList = [103, 97, 108, 108, 101, 121, 58, 32] ++ Quote.wordL e ++ (if 0 ≤ a then [32, 97, 116, 32] ++ Lib.itoa a else [])) ∧ Hid (Below w.heap.size w wc) ∧ Hid (wc.cell? ⟨w.heap.size, 2, none⟩ = some (.string x)) ∧ w.heap.size + 1 ≤ wc.heap.size)
  case first =>
    by_cases ha : 0 ≤ a
    · obtain ⟨s2, hs2⟩ : ∃ s2 : ByteArray, s2 = ⟨(Lib.itoa a).toArray⟩ := ⟨_, rfl⟩
      have HS2 : Hid (s2.data.toList = Lib.itoa a) := Lib.hid (by rw [hs2])
      have hz2 : s2.size ≤ 21 := by rw [hs2]; show (Lib.itoa a).toArray.size ≤ 21; rw [List.size_toArray]; exact HIL.out
      have HIT := Tryd.strconv_Itoa a (by omega) ha1 w1 (hT.out.below HBA.out)
      rw [← hs2] at HIT
      have HITH := Lib.hid HIT
      clear HIT hs2
      go_wp2_with (go_at_call 47; refine HITH.out.mono ?_; rintro r w2 ⟨rfl, k, os, hw2⟩; have HB2 : Hid (Below w1.heap.size w1 w2) := Lib.hid (by rw [hw2]; exact Lib.below_grow _ _ (Nat.le_refl _) k os); clear hw2)
      go_meet
      case rel => exact ⟨_, rfl, by simp only [ByteArray.size_append]; (show _ + (4 + _) ≤ _; omega), Lib.hid (by rw [if_pos ha]; simp [ByteArray.data_append, Array.toList_append, HYL.out, HS2.out]), Lib.hid (HBA.out.trans (HB2.out.mono (by omega))), Lib.hid ((HB2.out.cell (p := ⟨w.heap.size, 2, none⟩) (by show w.heap.size < _; omega)).trans HY2.out), by have := HB2.out.size; omega⟩
    · go_wp2_with fail
      go_meet
      case rel => exact ⟨y1, rfl, by omega, Lib.hid (by rw [if_neg (by omega), HYL.out]; simp), HBA, HY2, hsz1⟩
  case rest =>
    obtain ⟨y, rfl, hy100, HYY, HBC, HC2, hszc⟩ := hcut
    obtain ⟨wo, rfl⟩ : ∃ wo : World, wo = wc := ⟨_, rfl⟩
    have hr2 := HC2.out
    clear hr1 HY1 HY2 HBA hsz1 HYL hyz
    by_cases hxe : x.size = 0
    · have hx0 : x.data.toList = [] := List.eq_nil_of_length_eq_zero (by rw [Array.length_toList]; exact hxe)
      have hem : x.toList.isEmpty = true := by rw [ByteArray.toList_eq, hx0]; rfl
      have HR : Hid (y.data.toList = lineL e a x.data.toList) := Lib.hid (by rw [HYY.out, hx0]; unfold lineL; simp)
      clear hx0 hxe
      go_wp2_with fail
      go_ret
      exact ⟨y, rfl, HR, HBC⟩
    · have hx0 : x.data.toList ≠ [] := fun h => hxe (by have := congrArg List.length h; rw [Array.length_toList] at this; exact this)
      have hem : x.toList.isEmpty = false := by
        rw [ByteArray.toList_eq]
        cases hh : x.data.toList with
        | nil => exact absurd hh hx0
        | cons b l => rfl
      have hcv := Lib.run_convert_string_bytes (P := Tryd.prog) wo 9 23 5 x (u := .string) Tryd.underlying9 Tryd.underlying23 Tryd.underlying5
      have HSL := Lib.hid (bytesSlice wo 5 x (by simp only [maxLen]; omega))
      have HBB := Lib.hid (Lib.bytesWorld_below wo 5 x)
      have hszb := Lib.bytesWorld_size wo 5 x
      obtain ⟨W1, hW1⟩ : ∃ W1, W1 = Lib.bytesWorld wo 5 x := ⟨_, rfl⟩
      obtain ⟨cc, hcc⟩ : ∃ cc, cc = grownCap wo x.size 0 5 := ⟨_, rfl⟩
      rw [← hW1] at hcv HSL HBB hszb
      rw [← hcc] at hcv HSL
      clear hW1 hcc
      obtain ⟨s3, hs3⟩ : ∃ s3 : ByteArray, s3 = ⟨(Quote.show_ x.data.toList).toArray⟩ := ⟨_, rfl⟩
      have HS3 : Hid (s3.data.toList = Quote.show_ x.data.toList) := Lib.hid (by rw [hs3])
      have hz3 : s3.size ≤ 17179869186 := by
        rw [hs3]
        show (Quote.show_ x.data.toList).toArray.size ≤ _
        rw [List.size_toArray]
        have := show_len x.data.toList
        have hxl : x.data.toList.length = x.size := by rw [Array.length_toList]; rfl
        rw [hxl] at this
        omega
      have HSH := Lib.hid (show_any (some ⟨wo.heap.size, 0, none⟩) x.size cc x.data.toList _ W1 (Lib.hid (by rw [Array.length_toList]; rfl)) HSL (by omega))
      rw [← hs3] at HSH
      clear hs3 hxe
      go_wp2_with (go_at_call 20; refine HSH.out.mono ?_; rintro r w3 ⟨rfl, HB3⟩)
      go_ret
      exact ⟨_, rfl, Lib.hid (by unfold lineL; rw [if_neg hx0]; simp [ByteArray.data_append, Array.toList_append, HYY.out, HS3.out]), Lib.hid (HBC.out.trans ((HBB.out.trans (HB3.out.mono (by omega))).mono (by omega)))⟩
set_option maxRecDepth 100000 in
set_option maxHeartbeats 16000000 in
theorem lineD_any (e a : Int) (x : ByteArray) (w : World) (he0 : -9223372036854775808 ≤ e) (he1 : e ≤ 9223372036854775807) (ha0 : -9223372036854775808 ≤ a) (ha1 : a ≤ 9223372036854775807) (hx : x.size ≤ 4294967296) (hT : Hid (Pow10 w)) :
    Calls Tryd.prog 19 #[.agg #[.int .i64 e, .int .i64 a, .string x]] w fun r w' => ∃ y, r = .returned (.string y) ∧ Hid (y.data.toList = lineL e a x.data.toList) ∧ Hid (Below w.heap.size w w') := by
  have hil := Lib.itoa_length_le a ha0 ha1
  have hwl := Quote.word_len e he0 he1
  obtain ⟨s1, hs1⟩ : ∃ s1 : ByteArray, s1 = Quote.wordB e := ⟨_, rfl⟩
  have HS1 : Hid (s1.data.toList = Quote.wordL e) := Lib.hid (by rw [hs1]; rfl)
  have hz1 : s1.size ≤ 30 := by rw [hs1]; show (Quote.wordL e).toArray.size ≤ 30; rw [List.size_toArray]; exact hwl
  obtain ⟨W0, hW0⟩ : ∃ W0, W0 = w.alloc (.cells #[.int .i64 e, .int .i64 a, .string x] 55) := ⟨_, rfl⟩
  have HBW : Hid (Below w.heap.size w W0) := Lib.hid (by rw [hW0]; exact (Below.refl _ _).alloc (Nat.le_refl _) _)
  have hws : W0.heap.size = w.heap.size + 1 := by rw [hW0]; simp
  have HX1 : Hid (W0.cell? ⟨w.heap.size, 1, none⟩ = some (.int .i64 a)) := Lib.hid (by rw [hW0]; simp)
  have HX2 : Hid (W0.cell? ⟨w.heap.size, 2, none⟩ = some (.string x)) := Lib.hid (by rw [hW0]; simp)
  have HWD := Lib.hid (wordD_any e W0 he0 he1 (Lib.hid (hT.out.below HBW.out)))
  rw [← hs1] at HWD
  clear hs1 hwl
  have HIL := Lib.hid hil
  clear hil
  go_enter Tryd.func19, Tryd.ntmps19
  go_upto_region 2 with (go_at_call 17; rw [← hW0]; refine HWD.out.mono ?_; rintro r w1 ⟨rfl, HB1⟩)
  have HBA : Hid (Below w.heap.size w w1) := Lib.hid (HBW.out.trans (HB1.out.mono (by omega)))
  have HY1 : Hid (w1.cell? ⟨w.heap.size, 1, none⟩ = some (.int .i64 a)) := Lib.hid ((HB1.out.cell (p := ⟨w.heap.size, 1, none⟩) (by show w.heap.size < _; omega)).trans HX1.out)
  have HY2 : Hid (w1.cell? ⟨w.heap.size, 2, none⟩ = some (.string x)) := Lib.hid ((HB1.out.cell (p := ⟨w.heap.size, 2, none⟩) (by show w.heap.size < _; omega)).trans HX2.out)
  have hsz1 : w.heap.size + 1 ≤ w1.heap.size := by have := HB1.out.size; omega
  clear hW0 HX1 HX2 HB1 HBW
  obtain ⟨y1, hy1⟩ : ∃ y1 : ByteArray, (⟨#[103, 97, 108, 108, 101, 121, 58, 32]⟩ : ByteArray) ++ s1 = y1 := ⟨_, rfl⟩
  have HYL : Hid (y1.data.toList = [103, 97, 108, 108, 101, 121, 58, 32] ++ Quote.wordL e) := Lib.hid (by rw [← hy1, ByteArray.data_append, Array.toList_append, HS1.out])
  have hyz : y1.size ≤ 38 := by rw [← hy1, ByteArray.size_append]; show 8 + _ ≤ _; omega
  try rw [hy1]
  clear hy1
  have hr1 := HY1.out
  go_upto_if 10 with fail
  go_cut [3] from 10 (fun v3 wc => ∃ y, v3 = .string y ∧ y.size ≤ 100 ∧ Hid (y.data.toList = [103, 97, 108, 108, 101, 121, 58, 32] ++ Quote.wordL e ++ (if 0 ≤ a then [32, 97, 116, 32] ++ Lib.itoa a else [])) ∧ Hid (Below w.heap.size w wc) ∧ Hid (wc.cell? ⟨w.heap.size, 2, none⟩ = some (.string x)) ∧ w.heap.size + 1 ≤ wc.heap.size)
  case first =>
    by_cases ha : 0 ≤ a
    · obtain ⟨s2, hs2⟩ : ∃ s2 : ByteArray, s2 = ⟨(Lib.itoa a).toArray⟩ := ⟨_, rfl⟩
      have HS2 : Hid (s2.data.toList = Lib.itoa a) := Lib.hid (by rw [hs2])
      have hz2 : s2.size ≤ 21 := by rw [hs2]; show (Lib.itoa a).toArray.size ≤ 21; rw [List.size_toArray]; exact HIL.out
      have HIT := Tryd.strconv_Itoa a (by omega) ha1 w1 (hT.out.below HBA.out)
      rw [← hs2] at HIT
      have HITH := Lib.hid HIT
      clear HIT hs2
      go_wp2_with (go_at_call 47; refine HITH.out.mono ?_; rintro r w2 ⟨rfl, k, os, hw2⟩; have HB2 : Hid (Below w1.heap.size w1 w2) := Lib.hid (by rw [hw2]; exact Lib.below_grow _ _ (Nat.le_refl _) k os); clear hw2)
      go_meet
      case rel => exact ⟨_, rfl, by simp only [ByteArray.size_append]; (show (_ + 4) + _ ≤ _; omega), Lib.hid (by rw [if_pos ha]; simp [ByteArray.data_append, Array.toList_append, HYL.out, HS2.out]), Lib.hid (HBA.out.trans (HB2.out.mono (by omega))), Lib.hid ((HB2.out.cell (p := ⟨w.heap.size, 2, none⟩) (by show w.heap.size < _; omega)).trans HY2.out), by have := HB2.out.size; omega⟩
    · go_wp2_with fail
      go_meet
      case rel => exact ⟨y1, rfl, by omega, Lib.hid (by rw [if_neg (by omega), HYL.out]; simp), HBA, HY2, hsz1⟩
  case rest =>
    obtain ⟨y, rfl, hy100, HYY, HBC, HC2, hszc⟩ := hcut
    obtain ⟨wo, rfl⟩ : ∃ wo : World, wo = wc := ⟨_, rfl⟩
    have hr2 := HC2.out
    clear hr1 HY1 HY2 HBA hsz1 HYL hyz
    by_cases hxe : x.size = 0
    · have hx0 : x.data.toList = [] := List.eq_nil_of_length_eq_zero (by rw [Array.length_toList]; exact hxe)
      have hem : x.toList.isEmpty = true := by rw [ByteArray.toList_eq, hx0]; rfl
      have HR : Hid (y.data.toList = lineL e a x.data.toList) := Lib.hid (by rw [HYY.out, hx0]; unfold lineL; simp)
      clear hx0 hxe
      go_wp2_with fail
      go_ret
      exact ⟨y, rfl, HR, HBC⟩
    · have hx0 : x.data.toList ≠ [] := fun h => hxe (by have := congrArg List.length h; rw [Array.length_toList] at this; exact this)
      have hem : x.toList.isEmpty = false := by
        rw [ByteArray.toList_eq]
        cases hh : x.data.toList with
        | nil => exact absurd hh hx0
        | cons b l => rfl
      have hcv := Lib.run_convert_string_bytes (P := Tryd.prog) wo 9 23 5 x (u := .string) Tryd.underlying9 Tryd.underlying23 Tryd.underlying5
      have HSL := Lib.hid (bytesSlice wo 5 x (by simp only [maxLen]; omega))
      have HBB := Lib.hid (Lib.bytesWorld_below wo 5 x)
      have hszb := Lib.bytesWorld_size wo 5 x
      obtain ⟨W1, hW1⟩ : ∃ W1, W1 = Lib.bytesWorld wo 5 x := ⟨_, rfl⟩
      obtain ⟨cc, hcc⟩ : ∃ cc, cc = grownCap wo x.size 0 5 := ⟨_, rfl⟩
      rw [← hW1] at hcv HSL HBB hszb
      rw [← hcc] at hcv HSL
      clear hW1 hcc
      obtain ⟨s3, hs3⟩ : ∃ s3 : ByteArray, s3 = ⟨(Quote.show_ x.data.toList).toArray⟩ := ⟨_, rfl⟩
      have HS3 : Hid (s3.data.toList = Quote.show_ x.data.toList) := Lib.hid (by rw [hs3])
      have hz3 : s3.size ≤ 17179869186 := by
        rw [hs3]
        show (Quote.show_ x.data.toList).toArray.size ≤ _
        rw [List.size_toArray]
        have := show_len x.data.toList
        have hxl : x.data.toList.length = x.size := by rw [Array.length_toList]; rfl
        rw [hxl] at this
        omega
      have HSH := Lib.hid (showD_any (some ⟨wo.heap.size, 0, none⟩) x.size cc x.data.toList W1 (Lib.hid (by rw [Array.length_toList]; rfl)) (Lib.hid (by have h9 := HSL.out; rw [← hszb] at h9; exact h9)) (by omega))
      rw [← hs3] at HSH
      clear hs3 hxe
      go_wp2_with (go_at_call 27; refine HSH.out.mono ?_; rintro r w3 ⟨rfl, HB3⟩)
      go_ret
      exact ⟨_, rfl, Lib.hid (by unfold lineL; rw [if_neg hx0]; simp [ByteArray.data_append, Array.toList_append, HYY.out, HS3.out]), Lib.hid (HBC.out.trans ((HBB.out.trans (HB3.out.mono (by omega))).mono (by omega)))⟩
end Go.Proofs.YtfmaaempcpjpkaaDoor
