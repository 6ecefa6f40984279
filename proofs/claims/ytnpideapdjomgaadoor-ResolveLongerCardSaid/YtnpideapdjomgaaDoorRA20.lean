/- Texts that lead to the claim, one behind the other: What a tree weighs: the walk of syntax.weigh, which calls itself. Condition: it is a tree. -/
import Derived.Test.YtnpideapdjomgaaDoorRA3
import Derived.Test.YtnpideapdjomgaaDoorRA4
import Derived.WalkKit
import Derived.WalkSpells
import Derived.Deep.QuietTactic
import Derived.BigQuiet
import Derived.Deep.LoopGhost
import Derived.Deep.Cut
import Derived.Deep.CutBlock
namespace Go.Proofs.YtnpideapdjomgaaDoor
open Go.RowKit Go.ChangeShapes Go.WideShapes Go.Deep

namespace Syn
theorem weigh_le (re : List Nd) (f i : Nat) (x : Nat × Nat) (h : weighF re f i = some x) : x.1 ≤ 16385 := by
  cases f with
  | zero => cases h
  | succ f =>
    rw [weighF] at h
    cases ha : re[i]? with
    | none => rw [ha] at h; cases h
    | some a =>
      rw [ha] at h
      simp only at h
      split at h
      · cases h
      · injection h with h; subst h; simp only; omega
theorem iterO_step {σ : Type} {g : σ → Option σ} {n q : Nat} {s u sq : σ} (h : iterO g n s = some u) (hq : q < n) (hs : iterO g q s = some sq) : ∃ s', g sq = some s' ∧ iterO g (q + 1) s = some s' := by
  cases hg : g sq with
  | some s' => exact ⟨s', rfl, by rw [iterO_snoc, hs]; exact hg⟩
  | none =>
    have := iterO_none g (q + 1) s (by rw [iterO_snoc, hs]; exact hg) n hq
    rw [this] at h; cases h
theorem rep_bounds {q0 q1 q2 q3 nn mn mx k : Int} (h : okN ⟨6, q0, q1, q2, q3, nn, mn, mx, k⟩ = true) : 0 ≤ mn ∧ mn ≤ 255 ∧ (mx = -1 ∨ (0 ≤ mx ∧ mx ≤ 255)) := by
  unfold okN fields at h
  have h6 : reps ⟨6, q0, q1, q2, q3, nn, mn, mx, k⟩ = true := by
    simp only [Bool.and_eq_true] at h
    have := h.1
    rw [if_neg (by decide), if_neg (by decide), if_pos (by decide)] at this
    simp only [Bool.and_eq_true] at this
    exact this.1.1
  unfold reps at h6
  simp only [Bool.and_eq_true, Bool.or_eq_true, decide_eq_true_eq, beq_iff_eq] at h6
  omega
theorem times_neg (q0 q1 q2 q3 nn k : Int) (m a : Nat) : times ⟨6, q0, q1, q2, q3, nn, (m : Int), -1, k⟩ * a = (m + 1) * a := by simp [times]
theorem times_neg' (q0 q1 q2 q3 nn k : Int) (m a : Nat) (h : 1 ≤ m) : times ⟨6, q0, q1, q2, q3, nn, (m : Int) - 1, -1, k⟩ * a = m * a := by
  have : ((m : Int) - 1).toNat + 1 = m := by omega
  unfold times
  simp only [beq_self_eq_true, if_true]
  rw [this]
  try rfl
theorem times_max (q0 q1 q2 q3 nn mn k : Int) (m a : Nat) : times ⟨6, q0, q1, q2, q3, nn, mn, (m : Int), k⟩ * a = max m 1 * a := by
  have : decide ((m : Int) < 0) = false := by simp
  simp [times, this]
theorem times_one {op : Int} (q0 q1 q2 q3 nn mn mx k : Int) (a : Nat) (h : (op == 6) = false) : times ⟨op, q0, q1, q2, q3, nn, mn, mx, k⟩ * a = a := by simp [times, h]
theorem mul_small {m a k : Nat} (h1 : m ≤ k) (h2 : a ≤ 16385) : m * a ≤ k * 16385 := Nat.mul_le_mul h1 h2
theorem min_cast {x y a : Nat} (h : x = min (y + 1) 16385) (ha : y = a) : min ((a : Int) + 1) 16385 = (x : Int) := by subst ha; rw [h]; omega
theorem prod_min {M a K x : Nat} (hM : M ≤ K) (ha : a ≤ 16385) (hK : K ≤ 256) (hx : x = min (M * a + 1) 16385) : ∃ Y : Int, 0 ≤ Y ∧ Y ≤ 4194560 ∧ Hid (wrap64 ((a : Int) * (M : Int)) = Y) ∧ Hid (min (Y + 1) 16385 = (x : Int)) := by
  obtain ⟨pr, hpr⟩ : ∃ pr : Nat, pr = M * a := ⟨_, rfl⟩
  rw [← hpr] at hx
  have h1 : pr ≤ K * 16385 := by rw [hpr]; exact mul_small hM ha
  have e : (a : Int) * (M : Int) = (pr : Int) := by rw [hpr]; push_cast; rw [Int.mul_comm]
  rw [e]
  refine ⟨(pr : Int), by omega, by omega, Lib.hid (by unfold wrap64; omega), Lib.hid (min_cast hx rfl)⟩
end Syn
def weighStep (re : List Nd) (f : Nat) (s : Nat × Nat) : Option (Nat × Nat) := match Syn.weighF re f s.2 with | none => none | some w => some (Syn.addW s w)
set_option maxRecDepth 100000 in
set_option maxHeartbeats 4000000 in
theorem weigh_any {re : List Nd} {n c : Nat} {A : Option Addr} (hn : Hid (n = re.length)) (hnc : n ≤ c) (hcm : c ≤ 9223372036854775807) : ∀ (f g : Nat) (s t : Nat × List Bool) (x : Nat) (w : World) (S : Blocks), Hid (Syn.nodeF re f g s = some t) → Hid (Syn.weighF re f s.1 = some (x, t.1)) → Hid (SliceAt Rep.nd w S A c re) → Hid (∀ b, S b → b < w.heap.size) →
    Calls Tryd.prog 49 #[.slice A n c, .int .i64 (s.1 : Nat)] w fun e w' => e = .returned (.tuple #[.int .i64 (x : Nat), .int .i64 (t.1 : Nat)]) ∧ Below w.heap.size w w' := by
  intro f
  induction f with
  | zero => intro g s t x w S h; exact absurd h.out (by simp [Syn.nodeF])
  | succ f ih =>
    intro g s t x w S HND HW HR HS
    obtain ⟨i, e⟩ := s
    obtain ⟨ti, te⟩ := t
    have hil : i < re.length := by have := Syn.node_le re _ _ _ _ HND.out; simp only at this; omega
    obtain ⟨gb, o, rfl, hSg, hcs, hok⟩ := nd_at HR.out (Same.refl _ w) hil
    obtain ⟨⟨op, q0, q1, q2, q3, nn, mn, mx, kd⟩, hx⟩ : ∃ x, x = re[i] := ⟨_, rfl⟩
    rw [← hx] at hcs hok
    have HX : Hid (re[i]? = some ⟨op, q0, q1, q2, q3, nn, mn, mx, kd⟩) := Lib.hid (by rw [List.getElem?_eq_getElem hil, hx])
    have hin : i < n := by rw [hn.out]; exact hil
    have d0 : w.cell? ⟨gb, o + i * 9, none⟩ = some (.int .i8 op) := hcs 0 _ rfl
    have d1 : w.cell? ⟨gb, o + i * 9 + 1, none⟩ = some (.int .u64 q0) := hcs 1 _ rfl
    have d2 : w.cell? ⟨gb, o + i * 9 + 2, none⟩ = some (.int .u64 q1) := hcs 2 _ rfl
    have d3 : w.cell? ⟨gb, o + i * 9 + 3, none⟩ = some (.int .u64 q2) := hcs 3 _ rfl
    have d4 : w.cell? ⟨gb, o + i * 9 + 4, none⟩ = some (.int .u64 q3) := hcs 4 _ rfl
    have d5 : w.cell? ⟨gb, o + i * 9 + 5, none⟩ = some (.int .i64 nn) := hcs 5 _ rfl
    have d6 : w.cell? ⟨gb, o + i * 9 + 6, none⟩ = some (.int .i64 mn) := hcs 6 _ rfl
    have d7 : w.cell? ⟨gb, o + i * 9 + 7, none⟩ = some (.int .i64 mx) := hcs 7 _ rfl
    have d8 : w.cell? ⟨gb, o + i * 9 + 8, none⟩ = some (.int .i64 kd) := hcs 8 _ rfl
    -- what is known of the node
    obtain ⟨e1, he1⟩ : ∃ e1, e1 = Syn.opened ⟨op, q0, q1, q2, q3, nn, mn, mx, kd⟩ e := ⟨_, rfl⟩
    obtain ⟨g1, hg1⟩ : ∃ g1, g1 = Syn.deeper ⟨op, q0, q1, q2, q3, nn, mn, mx, kd⟩ g := ⟨_, rfl⟩
    obtain ⟨hokN, u, hu, hut⟩ : Syn.okN ⟨op, q0, q1, q2, q3, nn, mn, mx, kd⟩ = true ∧ ∃ u, Syn.iterO (Syn.nodeF re f g1) kd.toNat (i + 1, e1) = some u ∧ u.1 = ti := by
      have h := HND.out
      rw [Syn.nodeF, HX.out] at h
      simp only at h
      split at h
      case isFalse => cases h
      rename_i hc
      simp only [Bool.and_eq_true] at hc
      rw [← he1, ← hg1] at h
      cases hv : Syn.iterO (Syn.nodeF re f g1) kd.toNat (i + 1, e1) with
      | none => rw [hv] at h; cases h
      | some v => rw [hv] at h; injection h with h; exact ⟨hc.1.1, v, rfl, by rw [← (Prod.mk.inj h).1]⟩
    obtain ⟨K, hK⟩ : ∃ K : Nat, kd = (K : Int) := ⟨kd.toNat, by have := Syn.okN_kids hokN; simp only at this; omega⟩
    subst hK
    rw [Int.toNat_natCast] at hu
    obtain ⟨z, hz, hxz⟩ : ∃ z, Syn.iterO (weighStep re f) K (0, i + 1) = some z ∧ x = min (Syn.times ⟨op, q0, q1, q2, q3, nn, mn, mx, (K : Int)⟩ * z.1 + 1) 16385 ∧ z.2 = ti := by
      have h := HW.out
      rw [Syn.weighF] at h
      simp only at h
      rw [HX.out] at h
      simp only [Int.toNat_natCast] at h
      split at h
      · cases h
      · rename_i t ht
        injection h with h
        exact ⟨t, ht, (Prod.mk.inj h).1.symm, (Prod.mk.inj h).2⟩
    have HU := Lib.hid hu
    have HZ := Lib.hid hz
    have HXZ := Lib.hid hxz
    have HOKN := Lib.hid hokN
    obtain ⟨LW, hLW⟩ : ∃ LW : Nat → Nat → Nat → World → Prop, LW = fun q a b W => ∃ (sq : Nat × List Bool), Syn.iterO (Syn.nodeF re f g1) q (i + 1, e1) = some sq ∧ Syn.iterO (weighStep re f) q (0, i + 1) = some (a, b) ∧ b = sq.1 ∧ Below w.heap.size w W ∧ W.heap[w.heap.size]? = some (.cells (ncells ⟨op, q0, q1, q2, q3, nn, mn, mx, (K : Int)⟩).toArray 66 (0, 0)) := ⟨_, rfl⟩
    have HLW := Lib.hid hLW
    have HL0 : Hid (∀ W, Below w.heap.size w W → W.heap[w.heap.size]? = some (.cells (ncells ⟨op, q0, q1, q2, q3, nn, mn, mx, (K : Int)⟩).toArray 66 (0, 0)) → LW 0 0 (i + 1) W) := Lib.hid (by rw [hLW]; exact fun W h1 h2 => ⟨_, rfl, rfl, rfl, h1, h2⟩)
    have hKm : (K : Int) ≤ 9223372036854775807 := by
      have := hok.kids
      simp [Lit.wf, IntKind.min, IntKind.max, IntKind.signed, IntKind.bits] at this
      omega
    clear hu hz hxz hokN hcs hLW hx hil
    go_enter Tryd.func49, Tryd.ntmps49
    go_upto_region 2 with fail
    obtain ⟨w2, hw2⟩ : ∃ w2, w2 = w.alloc (.cells #[.int .i8 op, .int .u64 q0, .int .u64 q1, .int .u64 q2, .int .u64 q3, .int .i64 nn, .int .i64 mn, .int .i64 mx, .int .i64 (K : Nat)] 66) := ⟨_, rfl⟩
    rw [← hw2]
    have hb2 : Below w.heap.size w w2 := by rw [hw2]; exact Below.alloc (Below.refl _ _) (Nat.le_refl _) _
    have hn2 : w2.heap[w.heap.size]? = some (.cells (ncells ⟨op, q0, q1, q2, q3, nn, mn, mx, (K : Int)⟩).toArray 66 (0, 0)) := by rw [hw2]; exact heap_alloc_new _ _
    have HLW0 : Hid (LW 0 0 (i + 1) w2) := Lib.hid (HL0.out w2 hb2 hn2)
    have d8' : w2.cell? ⟨w.heap.size, 8, none⟩ = some (.int .i64 (K : Nat)) := (cell_of_row w2 _ 8 _ _ (0, 0) hn2).trans rfl
    clear hw2 hb2 hn2 d0 d1 d2 d3 d4 d5 d6 d7 d8
    go_wp2_with fail
    go_loopg [7, 8, 19] K (fun j v7 v8 v19 wr => ∃ q a b : Nat, q ≤ K ∧ v7 = .int .i64 (a : Nat) ∧ v8 = .int .i64 (b : Nat) ∧ v19 = .int .i64 (q : Nat) ∧ j = K - q ∧ a ≤ 16385 ∧ Hid (LW q a b wr))
    case atStart => exact ⟨0, 0, i + 1, Nat.zero_le _, rfl, by simp, rfl, rfl, Nat.zero_le _, HLW0⟩
    case round =>
      obtain ⟨q, a, b, hqK, rfl, rfl, rfl, hj, ha, HLQ⟩ := hrel
      obtain ⟨wq, rfl⟩ : ∃ W : World, W = wr := ⟨_, rfl⟩
      have hlq := HLQ.out
      rw [HLW.out] at hlq
      obtain ⟨sq, hs1, hs2, hs3, hs4, hs5⟩ := hlq
      by_cases hq : q < K
      · obtain ⟨s', hs', hs1'⟩ := Syn.iterO_step HU.out hq hs1
        obtain ⟨x', hx'⟩ := Syn.node_weigh re f g1 sq s' hs'
        have hx16 := Syn.weigh_le re f _ _ hx'
        simp only at hx16
        have HSL : Hid (SliceAt Rep.nd wq S (some ⟨gb, o, none⟩) c re) := Lib.hid (HR.out.keep (fun _ h => h) (Same.of_below hs4 fun b hb => HS.out b hb))
        have HCALL : Hid (Calls Tryd.prog 49 #[.slice (some ⟨gb, o, none⟩) n c, .int .i64 (b : Nat)] wq fun e w' => e = .returned (.tuple #[.int .i64 (x' : Nat), .int .i64 (s'.1 : Nat)]) ∧ Below wq.heap.size wq w') := Lib.hid (by
          rw [hs3]
          exact ih g1 sq s' x' wq S (Lib.hid hs') (Lib.hid hx') HSL (Lib.hid fun b hb => Nat.lt_of_lt_of_le (HS.out b hb) hs4.size))
        obtain ⟨b', hb'⟩ : ∃ b', b' = s'.1 := ⟨_, rfl⟩
        rw [← hb'] at HCALL
        obtain ⟨a', ha'⟩ : ∃ a' : Nat, a' = min (a + x') 16385 := ⟨_, rfl⟩
        have hmin : min ((a : Int) + (x' : Int)) 16385 = (a' : Int) := by rw [ha']; omega
        have ha2 : a' ≤ 16385 := by omega
        have HNEXT : Hid (∀ W, Below wq.heap.size wq W → LW (q + 1) a' b' W) := Lib.hid (by
          rw [HLW.out]
          intro W hW
          refine ⟨s', hs1', ?_, hb', hs4.trans (hW.mono hs4.size), (hW.block _ (Array.getElem?_eq_some_iff.1 hs5).1).trans hs5⟩
          rw [Syn.iterO_snoc, hs2]
          show weighStep re f (a, b) = _
          unfold weighStep
          simp only
          rw [hs3, hx']
          simp only [Syn.addW, ha', hb'])
        clear hs1 hs2 hs3 hs4 hs5 hs' hs1' hx' hb' ha'
        go_upto_region 6 with (go_at_call 49; refine HCALL.out.mono ?_; rintro e w8 ⟨rfl, hb8⟩; have HB8 := Lib.hid hb8; clear hb8)
        go_wp2_with fail
        all_goals
          go_roundg (K - (q + 1))
          case rel => exact ⟨q + 1, a', b', hq, by simp only [Value.int.injEq, true_and]; try omega, rfl, by simp, rfl, ha2, Lib.hid (HNEXT.out _ HB8.out)⟩
          case measure => omega
      · obtain rfl : q = K := by omega
        obtain ⟨rfl, rfl⟩ : a = z.1 ∧ b = ti := by
          rw [HZ.out] at hs2
          injection hs2 with hs2
          exact ⟨by rw [hs2], by rw [← HXZ.out.2, hs2]⟩
        have HB9 := Lib.hid hs4
        have x0 : wq.cell? ⟨w.heap.size, 0, none⟩ = some (.int .i8 op) := (cell_of_row wq _ 0 _ _ (0, 0) hs5).trans rfl
        have x6 : wq.cell? ⟨w.heap.size, 6, none⟩ = some (.int .i64 mn) := (cell_of_row wq _ 6 _ _ (0, 0) hs5).trans rfl
        have x7 : wq.cell? ⟨w.heap.size, 7, none⟩ = some (.int .i64 mx) := (cell_of_row wq _ 7 _ _ (0, 0) hs5).trans rfl
        clear hs1 hs2 hs3 hs4 hs5 HLQ
        obtain ⟨a, hza⟩ : ∃ a, a = z.1 := ⟨_, rfl⟩
        rw [← hza] at ha ⊢
        have HX2 : Hid (x = min (Syn.times ⟨op, q0, q1, q2, q3, nn, mn, mx, (q : Int)⟩ * a + 1) 16385) := Lib.hid (by rw [hza]; exact HXZ.out.1)
        clear hza
        by_cases h6 : op = 6
        · subst h6
          obtain ⟨hm0, hm1, hm2⟩ := Syn.rep_bounds HOKN.out
          by_cases hneg : mx < 0
          · obtain rfl : mx = -1 := by omega
            obtain ⟨M, rfl⟩ : ∃ M : Nat, mn = (M : Int) - 1 := ⟨(mn + 1).toNat, by omega⟩
            have hM1 : 1 ≤ M := by omega
            have hM2 : M ≤ 256 := by omega
            obtain ⟨Y, hY0, hle, HMUL, HMIN⟩ := Syn.prod_min (M := M) (a := a) (K := 256) hM2 ha (by omega) (show x = min (M * a + 1) 16385 by rw [HX2.out, Syn.times_neg' _ _ _ _ _ _ _ _ hM1])
            clear hm2 hm0 hm1 hneg
            go_upto_region 12 with fail
            rw [HMUL.out]
            go_wp2_with fail
            all_goals go_ret2
            all_goals exact ⟨by have := HMIN.out; simp; omega, HB9.out⟩
          · obtain ⟨xN, rfl⟩ : ∃ xN : Nat, mx = (xN : Int) := ⟨mx.toNat, by omega⟩
            have hnegb : decide ((xN : Int) < 0) = false := by simp
            by_cases hx0 : xN = 0
            · subst hx0
              have HW1 : Hid (wrap64 (a : Int) = (a : Int)) := Lib.hid (by unfold wrap64; omega)
              have HMIN : Hid (min ((a : Int) + 1) 16385 = (x : Int)) := Lib.hid (Syn.min_cast HX2.out ((Syn.times_max _ _ _ _ _ _ _ _ _).trans (by simp)))
              clear hm2 hneg
              go_upto_region 12 with fail
              try rw [HW1.out]
              go_wp2_with fail
              all_goals go_ret2
              all_goals exact ⟨by have := HMIN.out; simp; omega, HB9.out⟩
            · have hx1 : 1 ≤ xN := by omega
              have hx2 : xN ≤ 256 := by omega
              obtain ⟨Y, hY0, hle, HMUL, HMIN⟩ := Syn.prod_min (M := xN) (a := a) (K := 256) hx2 ha (by omega) (show x = min (xN * a + 1) 16385 by rw [HX2.out, Syn.times_max, show max xN 1 = xN by omega])
              clear hm2 hneg hx0
              go_upto_region 12 with fail
              rw [HMUL.out]
              go_wp2_with fail
              all_goals go_ret2
              all_goals exact ⟨by have := HMIN.out; simp; omega, HB9.out⟩
        · have hb6 : (op == 6) = false := by simpa using h6
          have hmin : min ((a : Int) + 1) 16385 = (x : Int) := Syn.min_cast HX2.out (Syn.times_one _ _ _ _ _ _ _ _ _ hb6)
          have HMIN := Lib.hid hmin
          clear hmin
          go_wp2_with fail
          all_goals go_ret2
          all_goals exact ⟨by have := HMIN.out; simp; omega, HB9.out⟩
end Go.Proofs.YtnpideapdjomgaaDoor
