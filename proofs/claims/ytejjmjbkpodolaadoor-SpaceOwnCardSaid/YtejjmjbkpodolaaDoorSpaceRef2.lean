/- The document's space, second part: Do, First, Cut. Condition: room. -/
import Derived.Test.YtejjmjbkpodolaaDoorSpaceRef
namespace Go.Proofs.YtejjmjbkpodolaaDoor
open Go.RowKit Go.ChangeShapes Go.WideShapes Go.Deep

section
variable (w : World) (g m n1 c1 n2 c2 : Nat) (S : Blocks) (A1 A2 : Option Addr) (p h : List UInt8)
set_option maxRecDepth 100000 in
set_option maxHeartbeats 1000000 in
theorem rdo_g (s : Hid (Sr w g S m A1 n1 c1 A2 n2 c2 p h)) : Calls Tryd.prog 23 #[.pointer (some ⟨g, 0, none⟩), .int .u8 103] w (DoPost kR 63 w g S m (0, h, h)) := by
  obtain ⟨h0, h1, h2, h3, f0, f1⟩ := s.out.cellsR
  have hle := s.out.le
  have HD : Hid (Sr w.drew g S m A1 n1 c1 A2 n2 c2 p h) := Lib.hid (s.out.far ((Below.refl _ _).drew))
  have HR : Hid (Space.setR m p h h h = (0, h, h)) := Lib.hid (if_pos ⟨by rw [← s.out.hh]; exact s.out.lh, by rw [← s.out.hh]; exact s.out.lh⟩)
  have HC := Lib.hid (set_any w.drew g m n1 c1 n2 c2 S A1 A2 p h A2 A2 n2 c2 n2 c2 h h S S HD (Lib.hid HD.out.th) (Lib.hid HD.out.th) (Lib.hid s.out.hh) (Lib.hid s.out.hh) (Lib.hid HD.out.hS) (by omega) (by omega))
  go_enter Tryd.func23, Tryd.ntmps23
  go_wp2_with fail
  refine (rnone_no w g m n1 c1 n2 c2 S A1 A2 p h s).mono ?_
  rintro e w1 ⟨rfl, rfl⟩
  go_wp2_with fail
  go_region_with (go_at_call 52; refine HC.out.mono ?_; intro e w2 hd; obtain ⟨q, rfl, HQ, HT⟩ := hd.named)
  all_goals
    go_wp2_with fail
    go_ret
    rw [← HR.out]
    exact DoPost.back HQ (Lib.hid (HT.out.from_ ((Below.refl w.heap.size w).drew)))
set_option maxRecDepth 100000 in
set_option maxHeartbeats 1000000 in
theorem rdo_h (s : Hid (Sr w g S m A1 n1 c1 A2 n2 c2 p h)) : Calls Tryd.prog 23 #[.pointer (some ⟨g, 0, none⟩), .int .u8 104] w (DoPost kR 63 w g S m (0, p, p)) := by
  obtain ⟨h0, h1, h2, h3, f0, f1⟩ := s.out.cellsR
  have hle := s.out.le
  have HD : Hid (Sr w.drew g S m A1 n1 c1 A2 n2 c2 p h) := Lib.hid (s.out.far ((Below.refl _ _).drew))
  have HR : Hid (Space.setR m p h p p = (0, p, p)) := Lib.hid (if_pos ⟨by rw [← s.out.hp]; exact s.out.lp, by rw [← s.out.hp]; exact s.out.lp⟩)
  have HC := Lib.hid (set_any w.drew g m n1 c1 n2 c2 S A1 A2 p h A1 A1 n1 c1 n1 c1 p p S S HD (Lib.hid HD.out.tp) (Lib.hid HD.out.tp) (Lib.hid s.out.hp) (Lib.hid s.out.hp) (Lib.hid HD.out.hS) (by omega) (by omega))
  go_enter Tryd.func23, Tryd.ntmps23
  go_wp2_with fail
  refine (rnone_no w g m n1 c1 n2 c2 S A1 A2 p h s).mono ?_
  rintro e w1 ⟨rfl, rfl⟩
  go_wp2_with fail
  go_region_with (go_at_call 52; refine HC.out.mono ?_; intro e w2 hd; obtain ⟨q, rfl, HQ, HT⟩ := hd.named)
  all_goals
    go_wp2_with fail
    go_ret
    rw [← HR.out]
    exact DoPost.back HQ (Lib.hid (HT.out.from_ ((Below.refl w.heap.size w).drew)))
set_option maxRecDepth 100000 in
set_option maxHeartbeats 1000000 in
theorem rdo_x (s : Hid (Sr w g S m A1 n1 c1 A2 n2 c2 p h)) : Calls Tryd.prog 23 #[.pointer (some ⟨g, 0, none⟩), .int .u8 120] w (DoPost kR 63 w g S m (0, h, p)) := by
  obtain ⟨h0, h1, h2, h3, f0, f1⟩ := s.out.cellsR
  have hle := s.out.le
  have HD : Hid (Sr w.drew g S m A1 n1 c1 A2 n2 c2 p h) := Lib.hid (s.out.far ((Below.refl _ _).drew))
  have HR : Hid (Space.setR m p h h p = (0, h, p)) := Lib.hid (if_pos ⟨by rw [← s.out.hh]; exact s.out.lh, by rw [← s.out.hp]; exact s.out.lp⟩)
  have HC := Lib.hid (set_any w.drew g m n1 c1 n2 c2 S A1 A2 p h A2 A1 n2 c2 n1 c1 h p S S HD (Lib.hid HD.out.th) (Lib.hid HD.out.tp) (Lib.hid s.out.hh) (Lib.hid s.out.hp) (Lib.hid HD.out.hS) (by omega) (by omega))
  go_enter Tryd.func23, Tryd.ntmps23
  go_wp2_with fail
  refine (rnone_no w g m n1 c1 n2 c2 S A1 A2 p h s).mono ?_
  rintro e w1 ⟨rfl, rfl⟩
  go_wp2_with fail
  go_region_with (go_at_call 52; refine HC.out.mono ?_; intro e w2 hd; obtain ⟨q, rfl, HQ, HT⟩ := hd.named)
  all_goals
    go_wp2_with fail
    go_ret
    rw [← HR.out]
    exact DoPost.back HQ (Lib.hid (HT.out.from_ ((Below.refl w.heap.size w).drew)))
set_option maxRecDepth 100000 in
set_option maxHeartbeats 1000000 in
theorem rdo_G (s : Hid (Sr w g S m A1 n1 c1 A2 n2 c2 p h)) : Calls Tryd.prog 23 #[.pointer (some ⟨g, 0, none⟩), .int .u8 71] w (DoPost kR 63 w g S m (Space.joinR m p h h)) := by
  obtain ⟨h0, h1, h2, h3, f0, f1⟩ := s.out.cellsR
  have hle := s.out.le
  have HD : Hid (Sr w.drew g S m A1 n1 c1 A2 n2 c2 p h) := Lib.hid (s.out.far ((Below.refl _ _).drew))
  have HJ := Lib.hid (joined_any w.drew A1 A2 n1 c1 n2 c2 p h S S (Lib.hid HD.out.tp) (Lib.hid HD.out.th) (Lib.hid s.out.hp) (Lib.hid s.out.hh) (Lib.hid fun x hx => (HD.out.hS x hx).2) (by omega))
  have HR : Hid (Space.setR m p h (p ++ 10 :: h) h = Space.joinR m p h h) := Lib.hid (by
    unfold Space.setR Space.joinR
    have : h.length ≤ m := by rw [← s.out.hh]; exact s.out.lh
    simp [this, Nat.add_comm, Nat.add_left_comm])
  go_enter Tryd.func23, Tryd.ntmps23
  go_wp2_with fail
  refine (rnone_no w g m n1 c1 n2 c2 S A1 A2 p h s).mono ?_
  rintro e w1 ⟨rfl, rfl⟩
  go_wp2_with fail
  go_region_with (first
    | (go_at_call 54; refine HJ.out.mono ?_; rintro e w1 ⟨A', n', c', rfl, k1, k2, HO, HN, HB⟩; have HS1 := Lib.hid (HD.out.far HB.out); obtain ⟨r0, r1, r2, r3, r4, r5⟩ := HS1.out.cellsR; have hsr := HS1.out.hS)
    | (go_at_call 52; refine (set_any w1 g m n1 c1 n2 c2 S A1 A2 p h A' A2 n' c' n2 c2 (p ++ 10 :: h) h _ S HS1 (Lib.hid HO.out.above.2) (Lib.hid HS1.out.th) (Lib.hid HO.out.above.1) (Lib.hid HS1.out.hh) (Lib.hid hsr) (by have := HN.out; omega) (by omega)).mono ?_; intro e w2 hd; obtain ⟨q, rfl, HQ, HT⟩ := hd.named))
  all_goals
    go_wp2_with fail
    go_ret
    rw [← HR.out]
    exact DoPost.back HQ (Lib.hid (HT.out.from_ (bfar ((Below.refl w.heap.size w).drew) HB.out)))
set_option maxRecDepth 100000 in
set_option maxHeartbeats 1000000 in
theorem rdo_H (s : Hid (Sr w g S m A1 n1 c1 A2 n2 c2 p h)) : Calls Tryd.prog 23 #[.pointer (some ⟨g, 0, none⟩), .int .u8 72] w (DoPost kR 63 w g S m (Space.moreR m p h)) := by
  obtain ⟨h0, h1, h2, h3, f0, f1⟩ := s.out.cellsR
  have hle := s.out.le
  have HD : Hid (Sr w.drew g S m A1 n1 c1 A2 n2 c2 p h) := Lib.hid (s.out.far ((Below.refl _ _).drew))
  have HJ := Lib.hid (joined_any w.drew A2 A1 n2 c2 n1 c1 h p S S (Lib.hid HD.out.th) (Lib.hid HD.out.tp) (Lib.hid s.out.hh) (Lib.hid s.out.hp) (Lib.hid fun x hx => (HD.out.hS x hx).2) (by omega))
  have HR : Hid (Space.setR m p h p (h ++ 10 :: p) = Space.moreR m p h) := Lib.hid (by
    unfold Space.setR Space.moreR
    have : p.length ≤ m := by rw [← s.out.hp]; exact s.out.lp
    simp [this, Nat.add_comm, Nat.add_left_comm])
  go_enter Tryd.func23, Tryd.ntmps23
  go_wp2_with fail
  refine (rnone_no w g m n1 c1 n2 c2 S A1 A2 p h s).mono ?_
  rintro e w1 ⟨rfl, rfl⟩
  go_wp2_with fail
  go_region_with (first
    | (go_at_call 54; refine HJ.out.mono ?_; rintro e w1 ⟨A', n', c', rfl, k1, k2, HO, HN, HB⟩; have HS1 := Lib.hid (HD.out.far HB.out); obtain ⟨r0, r1, r2, r3, r4, r5⟩ := HS1.out.cellsR; have hsr := HS1.out.hS)
    | (go_at_call 52; refine (set_any w1 g m n1 c1 n2 c2 S A1 A2 p h A1 A' n1 c1 n' c' p (h ++ 10 :: p) S _ HS1 (Lib.hid HS1.out.tp) (Lib.hid HO.out.above.2) (Lib.hid HS1.out.hp) (Lib.hid HO.out.above.1) (Lib.hid fun x hx => ⟨by have h1 := hx.1; have h2 := HD.out.glt; omega, hx.2⟩) (by omega) (by have := HN.out; omega)).mono ?_; intro e w2 hd; obtain ⟨q, rfl, HQ, HT⟩ := hd.named))
  all_goals
    go_wp2_with fail
    go_ret
    rw [← HR.out]
    exact DoPost.back HQ (Lib.hid (HT.out.from_ (bfar ((Below.refl w.heap.size w).drew) HB.out)))
set_option maxRecDepth 100000 in
theorem rdo_no (x : Int) (s : Hid (Sr w g S m A1 n1 c1 A2 n2 c2 p h)) (e1 : (x == 103) = false) (e2 : (x == 71) = false) (e3 : (x == 104) = false) (e4 : (x == 72) = false) (e5 : (x == 120) = false) : Calls Tryd.prog 23 #[.pointer (some ⟨g, 0, none⟩), .int .u8 x] w (DoPost kR 63 w g S m (1, p, h)) := by
  obtain ⟨h0, h1, h2, h3, f0, f1⟩ := s.out.cellsR
  go_enter Tryd.func23, Tryd.ntmps23
  go_wp2_with fail
  refine (rnone_no w g m n1 c1 n2 c2 S A1 A2 p h s).mono ?_
  rintro e w1 ⟨rfl, rfl⟩
  go_wp2_with fail
  go_ret
  exact DoPost.same ⟨_, _, _, _, _, _, s.out⟩ rfl (Below.refl _ _)
theorem rdo_any (x : UInt8) (s : Hid (Sr w g S m A1 n1 c1 A2 n2 c2 p h)) :
    Calls Tryd.prog 23 #[.pointer (some ⟨g, 0, none⟩), .int .u8 x.toNat] w (DoPost kR 63 w g S m (Space.doR m p h x)) := by
  unfold Space.doR
  split
  · subst x; exact rdo_g w g m n1 c1 n2 c2 S A1 A2 p h s
  split
  · subst x; exact rdo_G w g m n1 c1 n2 c2 S A1 A2 p h s
  split
  · subst x; exact rdo_h w g m n1 c1 n2 c2 S A1 A2 p h s
  split
  · subst x; exact rdo_H w g m n1 c1 n2 c2 S A1 A2 p h s
  split
  · subst x; exact rdo_x w g m n1 c1 n2 c2 S A1 A2 p h s
  rename_i e1 e2 e3 e4 e5
  have hne : ∀ y : UInt8, x ≠ y → ((x.toNat : Int) == (y.toNat : Int)) = false := fun y hy => by rw [beq_eq_false_iff_ne]; exact fun h => hy (UInt8.toNat_inj.1 (Int.ofNat_inj.1 h))
  exact rdo_no w g m n1 c1 n2 c2 S A1 A2 p h _ s (hne _ e1) (hne _ e2) (hne _ e3) (hne _ e4) (hne _ e5)
set_option maxRecDepth 100000 in
theorem end_yes (k : Nat) (s : Hid (Sr w g S m A1 n1 c1 A2 n2 c2 p h)) (hin : Hid ((10 : UInt8) ∈ p)) (hk : Hid (k = (Space.firstR p).length)) : Calls Tryd.prog 30 #[.pointer (some ⟨g, 0, none⟩)] w fun e w' => e = .returned (.int .i64 k) ∧ w = w' := by
  obtain ⟨h0, h1, h2, h3, f0, f1⟩ := s.out.cellsR
  have hle := s.out.le
  have hca := s.out.caps
  have hkn : k < n1 := by have h1 := Space.cut_parts hin.out; have h2 := congrArg List.length h1; rw [← s.out.hp, List.length_append, ← hk.out, List.length_cons] at h2; omega
  have HP : Hid (∀ i (hi : i < p.length), i < k → p[i] ≠ 10) := Lib.hid fun i hi hik h10 => by
    have h3 := Space.take_first hin.out
    rw [← hk.out] at h3
    have h4 : p[i] ∈ p.take k := by rw [List.mem_take_iff_getElem]; exact ⟨i, by omega, rfl⟩
    rw [h3, h10] at h4
    exact Space.first_no h4
  have HK : Hid (∀ hi : k < p.length, p[k] = 10) := Lib.hid fun hi => by
    have h3 : p[k]? = some 10 := by
      conv => lhs; rw [Space.cut_parts hin.out]
      rw [hk.out, List.getElem?_append_right (Nat.le_refl _)]
      simp
    rw [List.getElem?_eq_getElem hi] at h3
    exact Option.some.inj h3
  go_enter Tryd.func30, Tryd.ntmps30
  go_wp2_with fail
  go_loopg [3] k (fun q iv wr => ∃ i : Nat, i ≤ k ∧ iv = .int .i64 i ∧ q = k - i ∧ wr = w)
  case atStart => exact ⟨0, Nat.zero_le _, rfl, rfl, rfl⟩
  case round =>
    obtain ⟨i, hi, rfl, rfl, rfl⟩ := hrel
    have hil : i < p.length := by rw [← s.out.hp]; omega
    have hin1 : (i : Int) < (n1 : Int) := by omega
    have hi0 : (0 : Int) ≤ (i : Int) := Int.natCast_nonneg _
    obtain ⟨gt, o, rfl, -, hc⟩ := s.out.tp.byte hil
    rcases Nat.lt_or_ge i k with hlt | hge
    · have hne : ((p[i].toNat : Int) == 10) = false := by
        rw [beq_eq_false_iff_ne]; intro e; exact HP.out i hil hlt (UInt8.toNat_inj.1 (Int.ofNat_inj.1 e))
      go_wp2_with fail
      go_roundg (k - (i + 1))
      case measure => omega
      case rel => exact ⟨i + 1, by omega, by go_num, rfl, rfl⟩
    · obtain rfl : i = k := by omega
      rw [HK.out hil] at hc
      have hc' : wr.cell? ⟨gt, o + i, none⟩ = some (.int .u8 10) := hc
      clear hc
      go_wp2_with fail
      go_ret
      exact ⟨rfl, rfl⟩
set_option maxRecDepth 100000 in
theorem end_no (s : Hid (Sr w g S m A1 n1 c1 A2 n2 c2 p h)) (hin : Hid ((10 : UInt8) ∉ p)) : Calls Tryd.prog 30 #[.pointer (some ⟨g, 0, none⟩)] w fun e w' => e = .returned (.int .i64 (-1)) ∧ w = w' := by
  obtain ⟨h0, h1, h2, h3, f0, f1⟩ := s.out.cellsR
  have hle := s.out.le
  have hca := s.out.caps
  have HP : Hid (∀ i (hi : i < p.length), p[i] ≠ 10) := Lib.hid fun i hi h10 => hin.out (by rw [← h10]; exact List.getElem_mem _)
  go_enter Tryd.func30, Tryd.ntmps30
  go_wp2_with fail
  go_loopg [3] n1 (fun q iv wr => ∃ i : Nat, i ≤ n1 ∧ iv = .int .i64 i ∧ q = n1 - i ∧ wr = w)
  case atStart => exact ⟨0, Nat.zero_le _, rfl, rfl, rfl⟩
  case round =>
    obtain ⟨i, hi, rfl, rfl, rfl⟩ := hrel
    rcases Nat.lt_or_ge i n1 with hlt | hge
    · have hil : i < p.length := by rw [← s.out.hp]; omega
      have hin1 : (i : Int) < (n1 : Int) := by omega
      have hi0 : (0 : Int) ≤ (i : Int) := Int.natCast_nonneg _
      obtain ⟨gt, o, rfl, -, hc⟩ := s.out.tp.byte hil
      have hne : ((p[i].toNat : Int) == 10) = false := by
        rw [beq_eq_false_iff_ne]; intro e; exact HP.out i hil (UInt8.toNat_inj.1 (Int.ofNat_inj.1 e))
      go_wp2_with fail
      go_roundg (n1 - (i + 1))
      case measure => omega
      case rel => exact ⟨i + 1, by omega, by go_num, rfl, rfl⟩
    · obtain rfl : i = n1 := by omega
      go_wp2_with fail
      go_ret
      exact ⟨rfl, rfl⟩
set_option maxRecDepth 100000 in
theorem rfirst_any (s : Hid (Sr w g S m A1 n1 c1 A2 n2 c2 p h)) : Calls Tryd.prog 12 #[.pointer (some ⟨g, 0, none⟩)] w fun e w' => ∃ A n c, e = .returned (.tuple #[.slice A n c, .bool (decide ((10 : UInt8) ∈ p))]) ∧ n ≤ c ∧ c ≤ 9223372036854775807 ∧ Hid (n = (Space.firstR p).length) ∧ Hid (Own Rep.byte 5 w' w.heap.size nob (.slice A n c) (Space.firstR p)) ∧ Hid (Below w.heap.size w w') := by
  obtain ⟨h0, h1, h2, h3, f0, f1⟩ := s.out.cellsR
  have hnn := s.out.le
  have hca := s.out.caps
  by_cases hin : (10 : UInt8) ∈ p
  · obtain ⟨k, hk⟩ : ∃ k, k = (Space.firstR p).length := ⟨_, rfl⟩
    have HK := Lib.hid hk
    have HIN := Lib.hid hin
    have hkn : k + 1 ≤ n1 := by have h1 := Space.cut_parts hin; have h2 := congrArg List.length h1; rw [← s.out.hp, List.length_append, ← hk, List.length_cons] at h2; omega
    clear hk hin
    go_enter Tryd.func12, Tryd.ntmps12
    go_wp2_with fail
    refine (rnone_no w g m n1 c1 n2 c2 S A1 A2 p h s).mono ?_
    rintro e w1 ⟨rfl, rfl⟩
    go_wp2_with fail
    refine (end_yes w g m n1 c1 n2 c2 S A1 A2 p h k s HIN HK).mono ?_
    rintro e w1 ⟨rfl, rfl⟩
    go_wp2_with fail
    refine (copyB A1 k c1 (Space.firstR p) w S HK.out ?_ (by omega)).mono ?_
    · have h1 := s.out.tp.cutTo (j := k) (by rw [← s.out.hp]; omega)
      have h2 : p.take k = Space.firstR p := by rw [HK.out]; exact Space.take_first HIN.out
      rw [h2] at h1; exact h1
    rintro e w3 ⟨A', c', rfl, k1, k2, HO, HB3⟩
    go_wp2_with fail
    go_ret2
    rw [decide_eq_true HIN.out]
    exact ⟨A', k, c', rfl, k1, k2, HK, HO, HB3⟩
  · have HIN := Lib.hid hin
    have HK : Hid (Space.firstR p = p) := Lib.hid (Space.first_all hin)
    clear hin
    go_enter Tryd.func12, Tryd.ntmps12
    go_wp2_with fail
    refine (rnone_no w g m n1 c1 n2 c2 S A1 A2 p h s).mono ?_
    rintro e w1 ⟨rfl, rfl⟩
    go_wp2_with fail
    refine (end_no w g m n1 c1 n2 c2 S A1 A2 p h s HIN).mono ?_
    rintro e w1 ⟨rfl, rfl⟩
    go_wp2_with fail
    refine (copyB A1 n1 c1 p w S s.out.hp s.out.tp (by omega)).mono ?_
    rintro e w3 ⟨A', c', rfl, k1, k2, HO, HB3⟩
    go_wp2_with fail
    go_ret2
    rw [HK.out, decide_eq_false HIN.out]
    exact ⟨A', n1, c', rfl, k1, k2, Lib.hid s.out.hp, HO, HB3⟩
set_option maxRecDepth 100000 in
theorem rcut_any (s : Hid (Sr w g S m A1 n1 c1 A2 n2 c2 p h)) : Calls Tryd.prog 24 #[.pointer (some ⟨g, 0, none⟩)] w fun e w' => e = .returned (.bool (decide ((10 : UInt8) ∈ p))) ∧ Hid (Turned kR 63 w g S m (Space.cutR p) h w') := by
  obtain ⟨h0, h1, h2, h3, f0, f1⟩ := s.out.cellsR
  have hnn := s.out.le
  have hca := s.out.caps
  by_cases hin : (10 : UInt8) ∈ p
  · obtain ⟨k, hk⟩ : ∃ k, k = (Space.firstR p).length := ⟨_, rfl⟩
    have HK := Lib.hid hk
    have HIN := Lib.hid hin
    have hkn : k + 1 ≤ n1 := by have h1 := Space.cut_parts hin; have h2 := congrArg List.length h1; rw [← s.out.hp, List.length_append, ← hk, List.length_cons] at h2; omega
    have HCR : Hid (p.drop (k + 1) = Space.cutR p) := Lib.hid (by rw [hk]; exact Space.drop_first hin)
    have hsl : ∀ W : World, (Instr.sliceAt 55 (.slice A1 n1 c1) (some (.int .i64 ((k : Int) + 1))) none none).run Tryd.prog W = .ok (.slice (cutA A1 c1 (k + 1) 1) (n1 - (k + 1)) (c1 - (k + 1))) W := fun W => by
      have := run_slice_from (P := Tryd.prog) W stBytes A1 n1 c1 (k + 1) hkn
      rw [show ((k + 1 : Nat) : Int) = (k : Int) + 1 by omega] at this
      exact this
    clear hk hin
    go_enter Tryd.func24, Tryd.ntmps24
    go_wp2_with fail
    refine (rnone_no w g m n1 c1 n2 c2 S A1 A2 p h s).mono ?_
    rintro e w1 ⟨rfl, rfl⟩
    go_wp2_with fail
    refine (end_yes w g m n1 c1 n2 c2 S A1 A2 p h k s HIN HK).mono ?_
    rintro e w1 ⟨rfl, rfl⟩
    go_wp2_with fail
    refine (copyB (cutA A1 c1 (k + 1) 1) (n1 - (k + 1)) (c1 - (k + 1)) (Space.cutR p) w S ?_ ?_ (by omega)).mono ?_
    · rw [← HCR.out, List.length_drop, s.out.hp]
    · have h5 := s.out.tp.cutFromA (i := k + 1) (s := 1) (by rw [← s.out.hp]; omega) rfl
      rw [HCR.out] at h5
      exact h5
    rintro e w3 ⟨A', c', rfl, k1, k2, HO, HB3⟩
    have HS3 := Lib.hid (s.out.far HB3.out)
    obtain ⟨r0, r1, r2, r3, r4, r5⟩ := HS3.out.cellsR
    clear h0 h1 h2 h3 f0 f1 hsl
    go_wp2_with fail
    go_ret
    rw [decide_eq_true HIN.out]
    have hgl := s.out.glt
    refine ⟨rfl, Lib.hid ⟨grows S w.heap.size w3.heap.size, ⟨_, _, _, _, _, _, HS3.out.setR1 (fun _ => .inl) (fun x hx => ?_) (HO.out.above.2.up fun _ => .inr) HO.out.above.1 (by have := s.out.lp; omega)⟩, fun x hx => hx.imp id And.left, only_setR HB3.out⟩⟩
    rcases hx with hx | hx
    · exact HS3.out.hS x hx
    · exact ⟨by have := hx.1; omega, hx.2⟩
  · have HIN := Lib.hid hin
    have HK : Hid (Space.cutR p = p) := Lib.hid (if_neg hin)
    clear hin
    go_enter Tryd.func24, Tryd.ntmps24
    go_wp2_with fail
    refine (rnone_no w g m n1 c1 n2 c2 S A1 A2 p h s).mono ?_
    rintro e w1 ⟨rfl, rfl⟩
    go_wp2_with fail
    refine (end_no w g m n1 c1 n2 c2 S A1 A2 p h s HIN).mono ?_
    rintro e w1 ⟨rfl, rfl⟩
    go_wp2_with fail
    go_ret
    rw [HK.out, decide_eq_false HIN.out]
    exact ⟨rfl, Lib.hid ⟨S, ⟨_, _, _, _, _, _, s.out⟩, fun _ h => .inl h, Only.refl _ _⟩⟩
end
end Go.Proofs.YtejjmjbkpodolaaDoor
