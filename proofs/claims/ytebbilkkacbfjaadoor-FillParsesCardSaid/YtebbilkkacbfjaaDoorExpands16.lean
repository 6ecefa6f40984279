/- The walk of the law FillExpands. Condition: room. -/
import Derived.Test.YtebbilkkacbfjaaDoorFillLib
import Derived.Test.YtebbilkkacbfjaaDoorWide16
import Derived.Test.YtebbilkkacbfjaaDoorRefFill
import Derived.Test.YtebbilkkacbfjaaDoorEqPieces
import Derived.Test.YtebbilkkacbfjaaDoorBag
import Derived.Deep.RegionHeld3
namespace Go.Proofs.YtebbilkkacbfjaaDoor
open Go.RowKit

theorem bfar {a b c : World} (h : Below a.heap.size a b) (k : Below b.heap.size b c) : Below a.heap.size a c := h.trans (k.mono h.size)
theorem Own.low16 {α : Type} {r : Rep α} {e : TypeId} {w : World} {base base' : Nat} {S : Blocks} {v : Value} {l : List α} (h : Own r e w base S v l) (hb : base' ≤ base) : Own r e w base' S v l := by
  obtain ⟨xs, hx, hrest⟩ := h
  refine ⟨xs, ⟨hx.1, ?_⟩, hrest⟩
  rcases hx.2 with hx2 | ⟨g, cap, cur, e1, e2, e3⟩
  · exact .inl hx2
  · exact .inr ⟨g, cap, cur, e1, Nat.le_trans hb e2, e3⟩
theorem eqS (A B : Option Addr) (n k c d : Nat) (l : List UInt8) (w : World) (S S' : Blocks) (hn : Hid (n = l.length)) (hk : Hid (k = l.length)) (hx : Hid (SliceAt Rep.byte w S A c l)) (hy : Hid (SliceAt Rep.byte w S' B d l)) :
    Calls Tryd.prog 25 #[.slice A n c, .slice B k d] w fun e w' => e = .returned (.bool true) ∧ Below w.heap.size w w' := by
  refine (eqBytes_n A B n c k d l l w true hn.out hk.out (by simp) S S' hx.out hy.out).mono ?_
  rintro e w' ⟨rfl, q, rfl⟩
  exact ⟨rfl, below_drewN (Below.refl _ _) q⟩
theorem expand_o (A T S : Option Addr) (n ca m ct k cs : Nat) (ps : List Piece) (t : List UInt8) (ss : List Span) (w : World) (hn : Hid (n = ps.length)) (hm : Hid (m = t.length)) (hk : Hid (k = ss.length))
    (hp : Hid (SliceAt Rep.piece w (under w.heap.size) A ca ps)) (ht : Hid (SliceAt Rep.byte w (under w.heap.size) T ct t)) (hs : Hid (SliceAt Rep.span w (under w.heap.size) S cs ss)) (hx : Hid ((expand ps t ss).length ≤ 4194304)) :
    Calls Tryd.prog 22 #[.slice A n ca, .slice T m ct, .slice S k cs] w fun e w' => ∃ A1 n1 c1, e = .returned (.slice A1 n1 c1) ∧ n1 ≤ c1 ∧ c1 ≤ 9223372036854775807 ∧ Hid (n1 = (expand ps t ss).length) ∧ Hid (Own Rep.byte 5 w' w.heap.size nob (.slice A1 n1 c1) (expand ps t ss)) ∧ Hid (Below w.heap.size w w') := by
  obtain rfl := hn.out
  obtain rfl := hm.out
  obtain rfl := hk.out
  refine (expand_any A T S ca ct cs ps t ss w hp.out ht.out hs.out hx.out).mono ?_
  rintro e w' ⟨v, rfl, ho, hb⟩
  obtain ⟨A1, n1, c1, rfl, hn1, h1, h2⟩ := ho.form
  exact ⟨A1, n1, c1, rfl, h1, h2, hn1, Lib.hid ho, Lib.hid hb⟩
theorem eqSpans_any (A B : Option Addr) (n c d : Nat) (l : List Span) (w : World) (S S' : Blocks) (hn : Hid (n = l.length)) (hx : Hid (SliceAt Rep.span w S A c l)) (hy : Hid (SliceAt Rep.span w S' B d l)) :
    Calls Tryd.prog 27 #[.slice A n c, .slice B n d] w fun e w' => e = .returned (.bool true) ∧ ∃ q, w' = w.drewN q := by
  have hnc : n ≤ c := by rw [hn.out]; exact hx.out.len
  have hnd : n ≤ d := by rw [hn.out]; exact hy.out.len
  have hcm := hx.out.max
  have hdm := hy.out.max
  go_enter Tryd.func27, Tryd.ntmps27
  go_wp2_with fail
  go_loopg [5] n (fun k iv wr => ∃ i nd : Nat, i ≤ n ∧ iv = .int .i64 i ∧ k = n - i ∧ wr = w.drewN nd)
  case atStart => exact ⟨0, 0, Nat.zero_le _, rfl, rfl, rfl⟩
  case round =>
    obtain ⟨i, nd, hi, rfl, rfl, rfl⟩ := hrel
    rcases Nat.lt_or_ge i n with hlt | hge
    · have hil : i < l.length := by rw [← hn.out]; exact hlt
      obtain ⟨g, o, rfl, -, k0, k1, -, -⟩ := span_cells hx.out (Same.refl _ _) hil
      obtain ⟨g', o', rfl, -, k2, k3, -, -⟩ := span_cells hy.out (Same.refl _ _) hil
      obtain ⟨x, hx'⟩ : ∃ x, x = l[i].lo := ⟨_, rfl⟩
      obtain ⟨y, hy'⟩ : ∃ x, x = l[i].hi := ⟨_, rfl⟩
      rw [← hx'] at k0 k2
      rw [← hy'] at k1 k3
      clear hx' hy'
      obtain ⟨W, hW⟩ : ∃ W, W = w.drewN nd := ⟨_, rfl⟩
      have HW := Lib.hid hW
      have e0 : ∀ a, W.cell? a = w.cell? a := fun a => by rw [hW]; rfl
      rw [← e0] at k0 k1 k2 k3
      rw [← hW]
      clear e0 hW
      go_wp2_with fail
      go_quiet (fail)
      go_wp2_with fail
      go_roundg (n - (i + 1))
      case measure => omega
      case rel => exact ⟨i + 1, nd + nq, by omega, by go_num, rfl, by rw [HW.out]; exact World.drewN_drewN _ _ _⟩
    · obtain rfl : i = n := by omega
      go_wp2_with fail
      go_ret
      exact ⟨rfl, _, rfl⟩
section
variable (A T S : Option Addr) (n ca m ct k cs : Nat) (ps : List Piece) (t : List UInt8) (ss : List Span) (w : World) (hn : Hid (n = ps.length)) (hm : Hid (m = t.length)) (hk : Hid (k = ss.length))
    (hp : Hid (SliceAt Rep.piece w (under w.heap.size) A ca ps)) (ht : Hid (SliceAt Rep.byte w (under w.heap.size) T ct t)) (hs : Hid (SliceAt Rep.span w (under w.heap.size) S cs ss))
    (hn1 : n ≤ ca) (hn2 : ca ≤ 9223372036854775807) (hm1 : m ≤ ct) (hm2 : ct ≤ 9223372036854775807) (hk1 : k ≤ cs) (hk2 : cs ≤ 9223372036854775807)
include hn hm hk hp ht hs hn1 hn2 hm1 hm2 hk1 hk2
omit hn hm hk hp ht hs hn1 hn2 hm1 hm2 hk1 hk2 in
set_option maxRecDepth 100000 in
set_option maxHeartbeats 4000000 in
theorem fillExpands_1 (h : 65536 < n + m + k) (hb : n ≤ 35184372088832) (hb' : m ≤ 140737488355328) (hb'' : k ≤ 35184372088832) : Calls Tryd.prog 4 #[.slice A n ca, .slice T m ct, .slice S k cs] w fun e w' => e = .returned (.bool true) ∧ Below w.heap.size w w' := by
  have h' : decide ((65536 : Int) < (n : Int) + (m : Int) + (k : Int)) = true := by simp; omega
  go_enter Tryd.func4, Tryd.ntmps4
  go_wp2_with fail
  refine (works_any _).mono ?_
  rintro e w1 ⟨rfl, hb1⟩
  go_wp2_with fail
  go_ret
  exact ⟨rfl, hb1⟩
omit hm ht in
set_option maxRecDepth 100000 in
set_option maxHeartbeats 4000000 in
theorem fillExpands_2 (h : n + m + k ≤ 65536) (hl : 4194304 < longFrom ss 0 ps) : Calls Tryd.prog 4 #[.slice A n ca, .slice T m ct, .slice S k cs] w fun e w' => e = .returned (.bool true) ∧ Below w.heap.size w w' := by
  have h' : decide ((65536 : Int) < (n : Int) + (m : Int) + (k : Int)) = false := by simp; omega
  have hl' : decide ((4194304 : Int) < longFrom ss 0 ps) = true := by simpa using hl
  go_enter Tryd.func4, Tryd.ntmps4
  go_wp2_with fail
  refine (works_any _).mono ?_
  rintro e w1 ⟨rfl, hb1⟩
  have HB1 := Lib.hid hb1
  clear hb1
  go_wp2_with fail
  refine (refLong_n _ _ _ _ _ _ ps ss _ hn.out hk.out (SliceAt.grow hp.out HB1.out) (SliceAt.grow hs.out HB1.out)).mono ?_
  rintro e w2 ⟨rfl, nd, rfl⟩
  have HB2 := Lib.hid (below_drewN HB1.out nd)
  generalize hW : w1.drewN nd = W at HB2 ⊢
  clear hW HB1
  go_wp2_with fail
  refine (fillLong_n _ _ _ _ _ _ ps ss _ hn.out hk.out (SliceAt.grow hp.out HB2.out) (SliceAt.grow hs.out HB2.out)).mono ?_
  rintro e w3 ⟨rfl, hb3⟩
  have HB3 := Lib.hid (bfar HB2.out hb3)
  clear hb3 HB2
  go_wp2_with fail
  refine (refLong_n _ _ _ _ _ _ ps ss _ hn.out hk.out (SliceAt.grow hp.out HB3.out) (SliceAt.grow hs.out HB3.out)).mono ?_
  rintro e w4 ⟨rfl, nd', rfl⟩
  go_wp2_with fail
  go_ret
  exact ⟨by simp, below_drewN HB3.out _⟩
set_option maxRecDepth 100000 in
set_option maxHeartbeats 8000000 in
theorem fillExpands_3 (h : n + m + k ≤ 65536) (hl : longFrom ss 0 ps ≤ 4194304) (HLEN : Hid (∀ p ∈ ps, p.text.length ≤ 140737488351232)) : Calls Tryd.prog 4 #[.slice A n ca, .slice T m ct, .slice S k cs] w fun e w' => e = .returned (.bool true) ∧ Below w.heap.size w w' := by
  have h' : decide ((65536 : Int) < (n : Int) + (m : Int) + (k : Int)) = false := by simp; omega
  have hl' : decide ((4194304 : Int) < longFrom ss 0 ps) = false := by simpa using hl
  have hln := longFrom_le t ss ps 0 hl
  obtain ⟨E, hE⟩ : ∃ E, E = expand ps t ss := ⟨_, rfl⟩
  rw [← hE] at hln
  have HX : Hid ((expand ps t ss).length ≤ 4194304) := Lib.hid (by rw [← hE]; omega)
  have HE := Lib.hid hE
  have hel : E.length ≤ 4194304 := by omega
  clear hE hln
  obtain ⟨LF, hLF⟩ : ∃ L, L = longFrom ss 0 ps := ⟨_, rfl⟩
  have HLF := Lib.hid hLF
  rw [← hLF] at hl'
  clear hLF
  go_enter Tryd.func4, Tryd.ntmps4
  go_wp2_with fail
  refine (works_any _).mono ?_
  rintro e w1 ⟨rfl, hb1⟩
  have HB1 := Lib.hid hb1
  clear hb1
  go_wp2_with fail
  have HR1 := Lib.hid (refLong_n _ _ _ ca _ cs ps ss _ hn.out hk.out (SliceAt.grow hp.out HB1.out) (SliceAt.grow hs.out HB1.out))
  rw [← HLF.out] at HR1
  refine HR1.out.mono ?_
  clear HR1
  rintro e w2 ⟨rfl, nd, rfl⟩
  have HB2 := Lib.hid (below_drewN HB1.out nd)
  generalize hW : w1.drewN nd = w2 at HB2 ⊢
  clear hW HB1
  go_wp2_with fail
  refine (widePieces_any A n ca ps w2 _ hn (Lib.hid (SliceAt.grow hp.out HB2.out)) (Lib.hid fun b hb => hb) (by omega) HLEN).mono ?_
  rintro e w3 ⟨gp, rfl, HP3, HB3⟩
  have hb3 := bfar HB2.out HB3.out
  go_wp2_with fail
  refine (wideBytes_any T m ct t w3 _ hm.out (SliceAt.grow ht.out hb3) (fun b hb => hb) (by omega)).mono ?_
  rintro e w4 ⟨gt, rfl, ho4, hb4⟩
  have HB4 := Lib.hid hb4
  have HO4 := Lib.hid ho4
  have hb4' := bfar hb3 hb4
  clear ho4 hb4 hb3
  go_wp2_with fail
  refine (wideSpans_any S k cs ss w4 _ hk.out (SliceAt.grow hs.out hb4') (fun b hb => hb) (by omega)).mono ?_
  rintro e w5 ⟨gs, rfl, ho5, hb5⟩
  have HS5 := Lib.hid ho5.readF
  have HB5 := Lib.hid hb5
  have HBB := Lib.hid (bfar hb4' hb5)
  have hp5 : SliceAt Rep.wp w5 (under w5.heap.size) (some ⟨gp, 0, none⟩) (n + 64) (wps ps) := (HP3.out.keep (fun _ h => h) (Same.of_below (bfar HB4.out hb5) fun b hb => hb.2)).up fun b hb => Nat.lt_of_lt_of_le hb.2 (bfar HB4.out hb5).size
  have HO5 := Lib.hid ((HO4.out.far hb5).low16 (base' := w.heap.size) (bfar HB2.out HB3.out).size)
  have HT5 : Hid (Own Rep.byte 5 w5 w.heap.size nob (.slice (some ⟨gt, 0, none⟩) m (m + 64)) t) := Lib.hid (by
    have := HO5.out.first (k := m) (by rw [List.length_append, marksW_len, hm.out]) (by omega)
    rwa [show (t ++ marksW m).take m = t by rw [hm.out, List.take_left]] at this)
  have HRW : Hid (Rws 5 w w5 [((some ⟨gt, 0, none⟩, m, m + 64), t)]) := Lib.hid ⟨HBB.out, fun x hx => by rw [List.mem_singleton.1 hx]; exact HT5.out, List.pairwise_singleton _ _⟩
  have HP : Hid (∀ W, Below w5.heap.size w5 W → SliceAt Rep.wp W (under W.heap.size) (some ⟨gp, 0, none⟩) (n + 64) (wps ps)) := Lib.hid fun W hW => SliceAt.grow hp5 hW
  have HS : Hid (∀ W, Below w5.heap.size w5 W → SliceAt Rep.span W (under W.heap.size) (some ⟨gs, 0, none⟩) (k + 64) (ss ++ marksS k)) := Lib.hid fun W hW => SliceAt.grow (HS5.out.up fun b hb => hb.2) hW
  have HSS : Hid (∀ W, Below w5.heap.size w5 W → SliceAt Rep.span W (under W.heap.size) (some ⟨gs, 0, none⟩) (k + 64) ss) := Lib.hid fun W hW => by
    have h1 := (HS.out W hW).cutTo (j := k) (by rw [List.length_append, marksS_len, hk.out]; omega)
    rwa [show (ss ++ marksS k).take k = ss by rw [hk.out, List.take_left]] at h1
  have HT : Hid (∀ W, Below w5.heap.size w5 W → SliceAt Rep.byte W (under W.heap.size) (some ⟨gt, 0, none⟩) (m + 64) t) := Lib.hid fun W hW => (HT5.out.far hW).readF.up fun b hb => hb.2
  have HA : Hid (∀ W, Below w5.heap.size w5 W → SliceAt Rep.piece W (under W.heap.size) A ca ps ∧ SliceAt Rep.byte W (under W.heap.size) T ct t ∧ SliceAt Rep.span W (under W.heap.size) S cs ss) := Lib.hid fun W hW => ⟨SliceAt.grow hp.out (bfar HBB.out hW), SliceAt.grow ht.out (bfar HBB.out hW), SliceAt.grow hs.out (bfar HBB.out hW)⟩
  have HB55 := Lib.hid (Below.refl w5.heap.size w5)
  clear ho5 hb5 hb4' hp5 HO4 HP3 HB3 HB4 HB2 HS5
  have hex := fun W (hW : Below w5.heap.size w5 W) => expand_o (some ⟨gp, 0, none⟩) (some ⟨gt, 0, none⟩) (some ⟨gs, 0, none⟩) n (n + 64) m (m + 64) k (k + 64) ps t ss W hn hm hk (Lib.hid (HP.out W hW).pieces) (Lib.hid (HT.out W hW)) (Lib.hid (HSS.out W hW)) HX
  rw [← HE.out] at hex
  have HEX := Lib.hid hex
  clear hex
  go_wp2_with fail
  refine (HEX.out w5 HB55.out).mono ?_
  rintro e w6 ⟨A6, n6, c6, rfl, k61, k62, HN6, HO6, HB6⟩
  have HR6 := Lib.hid (HRW.out.add HB6.out HO6.out)
  simp only [List.cons_append, List.nil_append] at HR6
  clear HRW HO6
  go_wp2_with fail
  refine (HEX.out w6 HB6.out).mono ?_
  rintro e w7 ⟨A7, n7, c7, rfl, k71, k72, HN7, HO7, HB7⟩
  have HR7 := Lib.hid (HR6.out.add HB7.out HO7.out)
  simp only [List.cons_append, List.nil_append] at HR7
  have HC7 := Lib.hid (bfar HB6.out HB7.out)
  clear HR6 HO7 HB6 HB7 HEX
  have hlo := fillLong_n (some ⟨gp, 0, none⟩) (some ⟨gs, 0, none⟩) n (n + 64) k (k + 64) ps ss w7 hn.out hk.out (HP.out w7 HC7.out).pieces (HSS.out w7 HC7.out)
  rw [← HLF.out] at hlo
  have HLO := Lib.hid hlo
  clear hlo
  go_wp2_with fail
  refine HLO.out.mono ?_
  rintro e w8 ⟨rfl, hb8⟩
  have HR8 := Lib.hid (HR7.out.far hb8)
  have HC8 := Lib.hid (bfar HC7.out hb8)
  clear HR7 HC7 hb8 HLO
  have hre := refExpand_any A T S n ca m ct k cs ps t ss w8 hn hm hk (Lib.hid (HA.out w8 HC8.out).1) (Lib.hid (HA.out w8 HC8.out).2.1) (Lib.hid (HA.out w8 HC8.out).2.2) HX
  rw [← HE.out] at hre
  have HRE := Lib.hid hre
  clear hre
  go_wp2_with fail
  refine HRE.out.mono ?_
  rintro e w9 ⟨A9, n9, c9, rfl, k91, k92, HN9, HO9, HB9⟩
  have HR9 := Lib.hid (HR8.out.add HB9.out HO9.out)
  simp only [List.cons_append, List.nil_append] at HR9
  have HC9 := Lib.hid (bfar HC8.out HB9.out)
  clear HR8 HC8 HB9 HO9 HRE
  go_wp2_with fail
  refine (eqPieces_true (some ⟨gp, 0, none⟩) A n (n + 64) ca ps w9 hn (HP.out w9 HC9.out).pieces (HA.out w9 HC9.out).1).mono ?_
  rintro e w10 ⟨rfl, hb10⟩
  have HR10 := Lib.hid (HR9.out.far hb10)
  have HC10 := Lib.hid (bfar HC9.out hb10)
  clear hb10 HR9 HC9
  go_wp2_with fail
  refine (sparePieces_any gp n ps w10 _ hn (Lib.hid (HP.out w10 HC10.out)) (by omega) HLEN).mono ?_
  rintro e w11 ⟨rfl, q11, rfl⟩
  have HR11 := Lib.hid (HR10.out.far (below_drewN (Below.refl _ _) q11))
  have HC11 := Lib.hid (below_drewN HC10.out q11)
  generalize hW11 : w10.drewN q11 = w11 at HR11 HC11 ⊢
  clear hW11 HR10 HC10
  go_wp2_with fail
  refine (eqS (some ⟨gt, 0, none⟩) T m m (m + 64) ct t w11 _ _ hm hm (Lib.hid (HT.out w11 HC11.out)) (Lib.hid (HA.out w11 HC11.out).2.1)).mono ?_
  rintro e w12 ⟨rfl, hb12⟩
  have HR12 := Lib.hid (HR11.out.far hb12)
  have HC12 := Lib.hid (bfar HC11.out hb12)
  clear hb12 HR11 HC11
  go_wp2_with fail
  refine (spareBytes_any gt m w.heap.size t w12 hm.out (HO5.out.far HC12.out) (by omega)).mono ?_
  rintro e w13 ⟨rfl, q13, rfl⟩
  have HR13 := Lib.hid (HR12.out.far (below_drewN (Below.refl _ _) q13))
  have HC13 := Lib.hid (below_drewN HC12.out q13)
  generalize hW13 : w12.drewN q13 = w13 at HR13 HC13 ⊢
  clear hW13 HR12 HC12
  go_wp2_with fail
  refine (eqSpans_any (some ⟨gs, 0, none⟩) S k (k + 64) cs ss w13 _ _ hk (Lib.hid (HSS.out w13 HC13.out)) (Lib.hid (HA.out w13 HC13.out).2.2)).mono ?_
  rintro e w14 ⟨rfl, q14, rfl⟩
  have HR14 := Lib.hid (HR13.out.far (below_drewN (Below.refl _ _) q14))
  have HC14 := Lib.hid (below_drewN HC13.out q14)
  generalize hW14 : w13.drewN q14 = w14 at HR14 HC14 ⊢
  clear hW14 HR13 HC13
  go_wp2_with fail
  refine (spareSpans_any gs k ss w14 _ hk.out (HS.out w14 HC14.out) (by omega)).mono ?_
  rintro e w15 ⟨rfl, q15, rfl⟩
  have HR15 := Lib.hid (HR14.out.far (below_drewN (Below.refl _ _) q15))
  have HC15 := Lib.hid (below_drewN HC14.out q15)
  generalize hW15 : w14.drewN q15 = w15 at HR15 HC15 ⊢
  clear hW15 HR14 HC14
  have hrl := refLong_n A S n ca k cs ps ss w15 hn.out hk.out (HA.out w15 HC15.out).1 (HA.out w15 HC15.out).2.2
  rw [← HLF.out] at hrl
  have HRL := Lib.hid hrl
  clear hrl
  go_wp2_with fail
  refine HRL.out.mono ?_
  rintro e w16 ⟨rfl, q16, rfl⟩
  have HR16 := Lib.hid (HR15.out.far (below_drewN (Below.refl _ _) q16))
  generalize hW16 : w15.drewN q16 = w16 at HR16 ⊢
  clear hW16 HR15 HC15 HRL HP HS HSS HT HA HB55 HO5 HT5
  go_wp2_with fail
  refine (eqS A6 A9 n6 n9 c6 c9 E w16 _ _ HN6 HN9 (Lib.hid (HR16.out.read (k := 1) rfl).2.2.2) (Lib.hid (HR16.out.read (k := 3) rfl).2.2.2)).mono ?_
  rintro e w17 ⟨rfl, hb17⟩
  have HR17 := Lib.hid (HR16.out.far hb17)
  clear hb17 HR16
  go_wp2_with fail
  refine (eqS A7 A9 n7 n9 c7 c9 E w17 _ _ HN7 HN9 (Lib.hid (HR17.out.read (k := 2) rfl).2.2.2) (Lib.hid (HR17.out.read (k := 3) rfl).2.2.2)).mono ?_
  rintro e w18 ⟨rfl, hb18⟩
  have HR18 := Lib.hid (HR17.out.far hb18)
  clear hb18 HR17
  go_wp2_with fail
  go_loopg [17] m (fun q iv wr => ∃ (i : Nat) (l0 : List UInt8), i ≤ m ∧ iv = .int .i64 i ∧ q = m - i ∧ Hid (Rws 5 w wr [((some ⟨gt, 0, none⟩, m, m + 64), l0), ((A6, n6, c6), E), ((A7, n7, c7), E), ((A9, n9, c9), E)]))
  case atStart => exact ⟨0, _, Nat.zero_le _, rfl, rfl, HR18⟩
  case round =>
    obtain ⟨i, l0, hi, rfl, rfl, HRR⟩ := hrel
    rcases Nat.lt_or_ge i m with hlt | hge
    · have q1 := (HRR.out.read (k := 0) rfl).1
      obtain ⟨g', hge', hcell, hfr⟩ := HRR.out.cell (k := 0) rfl (i := i) (by omega)
      simp only [Option.some.injEq, Addr.mk.injEq] at hge'
      obtain ⟨rfl, -⟩ := hge'
      generalize l0[i]'(by omega) = z at hcell
      have HQ := Lib.hid q1
      clear q1
      go_wp2_with fail
      obtain ⟨y, hy⟩ := u8_bits .xor z.toNat 85
      go_roundg (m - (i + 1))
      case measure => omega
      case rel =>
        refine ⟨i + 1, l0.set i y, by omega, by go_num, rfl, Lib.hid ?_⟩
        rw [hy]
        exact HRR.out.put (k := 0) rfl (by have := HQ.out; omega) y
    · obtain rfl : i = m := by omega
      go_wp2_with fail
      refine (eqS A6 A9 n6 n9 c6 c9 E wr _ _ HN6 HN9 (Lib.hid (HRR.out.read (k := 1) rfl).2.2.2) (Lib.hid (HRR.out.read (k := 3) rfl).2.2.2)).mono ?_
      rintro e w19 ⟨rfl, hb19⟩
      have HR19 := Lib.hid (HRR.out.far hb19)
      clear hb19
      go_wp2_with fail
      have HG0 := Lib.hid (BagB.start w19 w.heap.size HR19.out.b.size)
      have HR20 := Lib.hid (HR19.out.far ((Below.refl _ _).alloc (Nat.le_refl _) (bagB (.slice none 0 0))))
      refine (addBytes_any w.heap.size _ _ [] _ HG0.out (by simp) _ _ _).mono ?_
      rintro e w21 ⟨rfl, v1, hbg1, ho1⟩
      have HR21 := Lib.hid (HR20.out.bag HG0.out ho1)
      have HG1 := Lib.hid hbg1
      clear hbg1 ho1
      go_wp2_with fail
      refine (addBytes_any w.heap.size _ _ _ _ HG1.out (by simp) _ _ _).mono ?_
      rintro e w22 ⟨rfl, v2, hbg1, ho1⟩
      have HR22 := Lib.hid (HR21.out.bag HG1.out ho1)
      have HG2 := Lib.hid hbg1
      clear hbg1 ho1
      go_wp2_with fail
      obtain ⟨ho, hd⟩ := HR22.out.chosen (fs := [((A6, n6, c6), E), ((A7, n7, c7), E)]) (.cons _ (.cons_cons _ (.cons_cons _ (.cons _ .slnil))))
      have hl6 := HN6.out
      have hl7 := HN7.out
      refine (apart_bytes w.heap.size _ v2 [(A6, n6, c6), (A7, n7, c7)] w22 HG2.out (by simp) (by simp) ho (by simp; omega) hd).mono ?_
      clear ho hd
      rintro e w23 ⟨rfl, hb23⟩
      have HB23 := Lib.hid (HR22.out.b.trans hb23)
      clear hb23
      go_wp2_with fail
      go_ret
      exact ⟨rfl, HB23.out⟩
end
theorem fillExpands_any (A T S : Option Addr) (ca ct cs : Nat) (ps : List Piece) (t : List UInt8) (ss : List Span) (w : World) (hp : Hid (SliceAt Rep.piece w (under w.heap.size) A ca ps)) (ht : Hid (SliceAt Rep.byte w (under w.heap.size) T ct t)) (hs : Hid (SliceAt Rep.span w (under w.heap.size) S cs ss))
    (h1 : ps.length ≤ 35184372088832) (h2 : t.length ≤ 140737488355328) (h3 : ss.length ≤ 35184372088832) (HLEN : Hid (∀ p ∈ ps, p.text.length ≤ 140737488351232)) :
    Calls Tryd.prog 4 #[.slice A ps.length ca, .slice T t.length ct, .slice S ss.length cs] w fun e w' => e = .returned (.bool true) ∧ Below w.heap.size w w' := by
  rcases Nat.lt_or_ge 65536 (ps.length + t.length + ss.length) with h | h
  · exact fillExpands_1 A T S _ ca _ ct _ cs w h h1 h2 h3
  · rcases Int.lt_or_le 4194304 (longFrom ss 0 ps) with hl | hl
    · exact fillExpands_2 A T S _ ca _ ct _ cs ps ss w (Lib.hid rfl) (Lib.hid rfl) hp hs hp.out.len hp.out.max ht.out.len ht.out.max hs.out.len hs.out.max h hl
    · exact fillExpands_3 A T S _ ca _ ct _ cs ps t ss w (Lib.hid rfl) (Lib.hid rfl) (Lib.hid rfl) hp ht hs hp.out.len hp.out.max ht.out.len ht.out.max hs.out.len hs.out.max h hl HLEN
end Go.Proofs.YtebbilkkacbfjaaDoor
