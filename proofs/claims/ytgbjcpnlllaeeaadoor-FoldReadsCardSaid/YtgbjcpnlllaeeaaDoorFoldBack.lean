/- What is shown, read back: the walk of fold.Back. Conditions: the table of letters lies as its initialiser lays it; at most 2^31 bytes. -/
import Derived.Test.YtgbjcpnlllaeeaaDoorProg
import Derived.Test.YtgbjcpnlllaeeaaDoorFoldOne
import Derived.Test.YtgbjcpnlllaeeaaDoorLibBytes
import Derived.WalkKit
import Derived.WalkSpells
import Derived.Deep.QuietTactic
import Derived.BigQuiet
import Derived.Lib.Hide
import Derived.Lib.SlBytesConst
import Derived.Deep.DeepMust
namespace Go.Proofs.YtgbjcpnlllaeeaaDoor
open Go.RowKit

set_option maxHeartbeats 1000000 in
theorem back_bad (A : Option Addr) (n ca : Nat) (b : List UInt8) (w : World) (hn : Hid (n = b.length)) (hb : SliceAt Rep.byte w (under w.heap.size) A ca b) (hs : [36, 10].isSuffixOf b = false) :
    Calls Tryd.prog 9 #[.slice A n ca] w fun e w' => e = .returned (.tuple #[.slice none 0 0, .bool false]) ∧ Below w.heap.size w w' := by
  have hc : Hid (∀ w' : World, Below w.heap.size w w' → ∀ (B : Option Addr) (S' : Blocks), SliceAt Rep.byte w' S' B 2 [36, 10] → Calls Tryd.prog 20 #[.slice A n ca, .slice B 2 2] w' fun e w'' => e = .returned (.tuple #[.slice A n ca, .bool false]) ∧ w'' = w') := fun w' hbw B S' hy =>
    cutSuffix_no A B n ca 2 2 b [36, 10] w' hn rfl hs _ S' (hb.below hbw (Nat.le_refl _)) hy
  clear hb hs
  have kc := fun (w : World) (C : Array Value) (n c : Nat) => Lib.run_convert_bytes_const (P := Tryd.prog) w 22 5 C n c Tryd.underlying22 Tryd.underlying5
  go_enter Tryd.func9, Tryd.ntmps9
  go_wp2_with (go_at_call 20; refine (hc.out _ ((Below.refl _ w).alloc (Nat.le_refl _) _) _ _ (SliceAt.newBytes w _ _ [36, 10] 2 (by simp) (by simp [maxLen]) rfl (2, 3))).mono ?_; rintro e w2 ⟨rfl, rfl⟩)
  go_ret2
  exact ⟨rfl, (Below.refl _ w).alloc (Nat.le_refl _) _⟩

theorem SliceAt.newBytesAt (w : World) (e : TypeId) (cs : Array Value) (l : List UInt8) (c q : Nat) (hc : l.length ≤ c) (hm : c ≤ maxLen) (h : cs.toList = bcells l) (hq : q = w.heap.size) :
    SliceAt Rep.byte (w.alloc (.cells cs e)) (under (w.heap.size + 1)) (some ⟨q, 0, none⟩) c l := by subst hq; exact SliceAt.newBytes w e cs l c hc hm h
theorem below_drew' {B : Nat} {a w : World} (h : Below B a w) (n : Nat) : Below B a (w.drewN n) := ⟨h.os, h.tape, h.output, h.size, h.block⟩
/-- What Back answers. -/
def BackAns (w : World) : Option (List UInt8) → Ending → World → Prop
  | some x, e, w' => ∃ v, e = .returned (.tuple #[v, .bool true]) ∧ Own Rep.byte 5 w' w.heap.size nob v x
  | none, e, _ => e = .returned (.tuple #[.slice none 0 0, .bool false])
/-- One step of reading back, in the words of its state. -/
theorem backGo_step (t : List UInt8) (p : Nat) (hp : p < t.length) (r lg rm : Nat) (fresh : Bool) (u : List UInt8) (q : Nat) (hf : fresh = (!decide (p = 0) && [92, 10].isPrefixOf (t.drop p))) (hq : q = if fresh then p + 2 else p) (hu : u = t.drop q) :
    Fold.backGo t.length (decide (p = 0)) r lg rm (t.drop p) = if (Fold.one u).2 = 0 then none else
      (Fold.backGo t.length false (if fresh then (Fold.one u).2 else r + (Fold.one u).2) (max lg (if fresh then (Fold.one u).2 else r + (Fold.one u).2)) (if fresh then min rm (r + (Fold.one u).2) else rm) (t.drop (q + (Fold.one u).2))).map ((Fold.one u).1 :: ·) := by
  have hne : t.drop p ≠ [] := fun h => by have := congrArg List.length h; simp at this; omega
  obtain ⟨k, hk⟩ : ∃ k, t.length = k + 1 := ⟨t.length - 1, by omega⟩
  have hu' : u = if fresh then (t.drop p).drop 2 else t.drop p := by
    rw [hu, hq]; cases fresh <;> simp [List.drop_drop]
  rw [hk, Fold.backGo_succ k _ r lg rm (t.drop p) u fresh hne hf hu']
  by_cases h0 : (Fold.one u).2 = 0
  · rw [if_pos h0, if_pos h0]
  · rw [if_neg h0, if_neg h0]
    have e : u.drop (Fold.one u).2 = t.drop (q + (Fold.one u).2) := by rw [hu, List.drop_drop]
    have hl : (t.drop (q + (Fold.one u).2)).length ≤ k := by rw [List.length_drop]; omega
    rw [e, Fold.backGo_fuel k (k + 1) _ _ _ _ _ hl (by omega)]

set_option maxRecDepth 100000 in
set_option maxHeartbeats 8000000 in
theorem back_good (A : Option Addr) (k ca : Nat) (b t : List UInt8) (w : World) (hn : Hid (k + 2 = b.length)) (ht : Hid (t = b.take k)) (hb : SliceAt Rep.byte w (under w.heap.size) A ca b) (hs : [36, 10].isSuffixOf b = true) (hL : Hid (Ltrs w)) (h0 : 0 < w.heap.size) (hsize : k ≤ 4294967296) :
    Calls Tryd.prog 9 #[.slice A (k + 2 : Nat) ca] w fun e w' => BackAns w (Fold.back b) e w' ∧ Below w.heap.size w w' := by
  have hc : Hid (∀ w' : World, Below w.heap.size w w' → ∀ (B : Option Addr) (S' : Blocks), SliceAt Rep.byte w' S' B 2 [36, 10] → Calls Tryd.prog 20 #[.slice A (k + 2 : Nat) ca, .slice B 2 2] w' fun e w'' => e = .returned (.tuple #[.slice A k ca, .bool true]) ∧ w'' = w') := fun w' hbw B S' hy =>
    cutSuffix_yes A B k ca 2 2 b [36, 10] w' hn rfl hs _ S' (hb.below hbw (Nat.le_refl _)) hy
  have hbl := hb.len
  have hbm := hb.max
  have hkl : k ≤ b.length := by have := hn.out; omega
  have htl : k = t.length := by rw [ht.out, List.length_take]; omega
  have hts : SliceAt Rep.byte w (under w.heap.size) A ca t := by rw [ht.out]; exact hb.cutTo hkl
  have hback : Fold.back b = Fold.backGo t.length true 0 4 4611686018427387904 t := by
    unfold Fold.back
    rw [if_pos hs]
    have : b.length - 2 = k := by have := hn.out; omega
    rw [this, ← ht.out]
    exact Fold.backGo_fuel _ _ _ _ _ _ _ (by have := hn.out; omega) (Nat.le_refl _)
  have hkc : k + 2 ≤ ca := by have := hn.out; omega
  have HTS := Lib.hid hts
  have HTL := Lib.hid htl
  have HBACK := Lib.hid hback
  have hslice : ∀ (p : Nat), p ≤ k → ∀ W : World, (Instr.sliceAt 22 (.slice A k ca) (some (.int .i64 (p : Int))) none none).run Tryd.prog W = .ok (.slice (cutA A ca p 1) (k - p) (ca - p)) W := fun p hp W => run_slice_from W stBytes A k ca p hp
  have HSL := Lib.hid hslice
  have hone : ∀ (q : Nat), q ≤ k → ∀ W : World, Below w.heap.size w W → Calls Tryd.prog 22 #[.slice (cutA A ca q 1) (k - q) (ca - q)] W fun e w' => OneAns (t.drop q) W e w' := fun q hq W hW =>
    one_any _ _ _ (t.drop q) W (Lib.hid (by rw [List.length_drop, ← htl])) (under w.heap.size) ((hts.below hW (Nat.le_refl _)).cutFromA (by omega) rfl) (hL.out.below hW h0)
  have HONE := Lib.hid hone
  have hpre : ∀ (q : Nat) (f : Bool), q ≤ k → [92, 10].isPrefixOf (t.drop q) = f → ∀ (W : World) (B : Option Addr) (S' : Blocks), Below w.heap.size w W → SliceAt Rep.byte W S' B 2 [92, 10] → Calls Tryd.prog 21 #[.slice (cutA A ca q 1) (k - q) (ca - q), .slice B 2 2] W fun e w' => e = .returned (.bool f) ∧ w' = W := fun q f hq hf W B S' hW hy =>
    hasPrefix_any _ B _ _ 2 2 (t.drop q) [92, 10] W f (Lib.hid (by rw [List.length_drop, ← htl])) rfl hf (under w.heap.size) S' ((hts.below hW (Nat.le_refl _)).cutFromA (by omega) rfl) hy
  have HPRE := Lib.hid hpre
  clear hb hs hbl hkl htl hts hback hslice hone hpre
  have kc := fun (w : World) (C : Array Value) (n c : Nat) => Lib.run_convert_bytes_const (P := Tryd.prog) w 22 5 C n c Tryd.underlying22 Tryd.underlying5
  go_enter Tryd.func9, Tryd.ntmps9
  go_wp2_with (go_at_call 20; refine (hc.out _ ((Below.refl _ w).alloc (Nat.le_refl _) _) _ _ (SliceAt.newBytes w _ _ [36, 10] 2 (by simp) (by simp [maxLen]) rfl (2, 3))).mono ?_; rintro e w2 ⟨rfl, rfl⟩)
  have hb0 : Below w.heap.size w (w.alloc (.cells #[.int .u8 36, .int .u8 10] 5 (2, 3))) := (Below.refl _ w).alloc (Nat.le_refl _) _
  have HB0 := Lib.hid hb0
  clear hb0 hc
  go_loopw [6, 7, 8, 9, 10] (fun vo row lo ro i wr => ∃ (p r lg rm : Nat) (ob : List UInt8), p ≤ k ∧ i = .int .i64 p ∧ row = .int .i64 r ∧ lo = .int .i64 lg ∧ ro = .int .i64 rm ∧ Own Rep.byte 5 wr w.heap.size nob vo ob ∧ Below w.heap.size w wr ∧ Fold.back b = (Fold.backGo t.length (decide (p = 0)) r lg rm (t.drop p)).map (ob ++ ·) ∧ ob.length ≤ p ∧ r ≤ p ∧ lg ≤ 4 + p ∧ rm ≤ 4611686018427387904) (fun _ _ _ _ i _ => k - (intOf i).toNat)
  case atStart => exact ⟨0, 0, 4, 4611686018427387904, [], Nat.zero_le _, rfl, rfl, rfl, rfl, Own.nil _ _ _ _, HB0.out, by rw [HBACK.out]; simp, by simp, by omega, by omega, by omega⟩
  case round =>
    obtain ⟨p, r, lg, rm, ob, hp, rfl, rfl, rfl, rfl, ho, hbw, hgo, hob, hr, hlg, hrm⟩ := hrel
    have HO := Lib.hid ho
    have HBW := Lib.hid hbw
    have HGO := Lib.hid hgo
    have HOB := Lib.hid hob
    have hwz := hbw.size
    clear ho hbw hgo hob
    by_cases hlt : p < k
    · have hpt : p < t.length := by have := HTL.out; omega
      by_cases hp0 : p = 0
      · subst hp0
        obtain rfl : r = 0 := by omega
        have hfr : false = (!decide ((0 : Nat) = 0) && [92, 10].isPrefixOf (t.drop 0)) := by simp
        have hstep := backGo_step t 0 hpt 0 lg rm false (t.drop 0) 0 hfr rfl rfl
        obtain ⟨⟨c, n⟩, hcn⟩ : ∃ cn, cn = Fold.one (t.drop 0) := ⟨_, rfl⟩
        have hle := Fold.one_le (t.drop 0)
        rw [← hcn] at hstep hle
        rw [List.length_drop] at hle
        simp only [Bool.false_eq_true, if_false, Nat.zero_add] at hstep
        have hnk : n ≤ k := by have := HTL.out; simp only at hle; omega
        have hcall : Hid (∀ W : World, Below w.heap.size w W → Calls Tryd.prog 22 #[.slice (cutA A ca 0 1) k ca] W fun e w' => e = .returned (.tuple #[.int .u8 c.toNat, .int .i64 n]) ∧ ∃ m, w' = W.drewN m) := fun W hW => by
          have := HONE.out 0 (by omega) W hW
          unfold OneAns at this
          rwa [← hcn] at this
        have hs1 : ∀ W : World, (Instr.sliceAt 22 (.slice A k ca) (some (.int .i64 0)) none none).run Tryd.prog W = .ok (.slice (cutA A ca 0 1) k ca) W := HSL.out 0 (by omega)
        have HSTEP := Lib.hid hstep
        clear hstep hcn hle hfr
        by_cases hn0 : n = 0
        · subst hn0
          have hfin : Fold.back b = none := HGO.out.trans ((congrArg (Option.map (ob ++ ·)) HSTEP.out).trans (by rw [if_pos rfl]; rfl))
          have HFIN := Lib.hid hfin
          clear hfin
          go_wp2_with (go_at_call 22; refine (hcall.out _ HBW.out).mono ?_; rintro e w2 ⟨rfl, m, rfl⟩)
          go_ret2
          exact ⟨by rw [HFIN.out]; rfl, below_drew' HBW.out _⟩
        · have hn0' : ((n : Int) == 0) = false := by rw [beq_eq_false_iff_ne]; omega
          have hnew : Fold.back b = (Fold.backGo t.length (decide (n = 0)) n (max lg n) rm (t.drop n)).map (ob ++ [c] ++ ·) := by
            refine HGO.out.trans ((congrArg (Option.map (ob ++ ·)) HSTEP.out).trans ?_)
            rw [if_neg hn0, Option.map_map]
            have hz : decide (n = 0) = false := by rw [decide_eq_false_iff_not]; exact hn0
            rw [hz]
            congr 1
            funext x
            simp
          have HNEW := Lib.hid hnew
          clear hnew
          go_wp2_with (first | (go_at_call 22; refine (hcall.out _ HBW.out).mono ?_; rintro e w2 ⟨rfl, m, rfl⟩) | (at_builtin; refine wpList_append_bytes _ rfl (.tmp 61) (.tmp 63) 22 rfl w.heap.size 5 stBytes _ _ rfl ((HO.out.drewN _).alloc _) _ _ _ _ [c] rfl (SliceAt.newBytesAt _ _ _ [c] 1 _ (by simp) (by simp [maxLen]) rfl (by simp)) rfl (by have := HOB.out; omega) (by have := hwz; simp; omega) ?_; intro v3 w3 hown3 hg3 hat3; have HB3 := Lib.hid (below_own ((below_drew' HBW.out _).alloc (by have := hwz; simp; omega) _) ((HO.out.drewN _).alloc _) hg3 (by have := hwz; simp; omega)); have HO3 := Lib.hid hown3; clear hown3 hg3 hat3))
          all_goals go_roundw
          all_goals first
            | exact ⟨n, n, max lg n, rm, _, by omega, by go_num, by go_num, by congr 1; omega, rfl, HO3.out, HB3.out, HNEW.out, by have := HOB.out; simp; omega, by omega, by omega, by omega⟩
            | (simp [intOf]; omega)
      · have hp0' : (0 : Int) < p := by omega
        have HBA : Hid (∀ n : Nat, Below w.heap.size w (wr.alloc (.cells #[.int .u8 92, .int .u8 10] 5 (2, 3)))) := Lib.hid fun _ => HBW.out.alloc hwz _
        have hsp := HSL.out p (by omega)
        cases hpf : [92, 10].isPrefixOf (t.drop p) with
        | true =>
          have hfr : true = (!decide (p = 0) && [92, 10].isPrefixOf (t.drop p)) := by rw [hpf]; simp [hp0]
          have hp2 : p + 2 ≤ k := by
            have := (List.isPrefixOf_iff_prefix.1 hpf).length_le
            have h2 := HTL.out
            simp at this; omega
          have hpc : Hid (∀ (W : World), Below w.heap.size w W → ∀ (B : Option Addr) (S' : Blocks), SliceAt Rep.byte W S' B 2 [92, 10] → Calls Tryd.prog 21 #[.slice (cutA A ca p 1) (k - p) (ca - p), .slice B 2 2] W fun e w' => e = .returned (.bool true) ∧ w' = W) := fun W hW B S' hy => HPRE.out p true (by omega) hpf W B S' hW hy
          clear hpf
          have hstep := backGo_step t p hpt r lg rm true (t.drop (p + 2)) (p + 2) hfr rfl rfl
          obtain ⟨⟨c, n⟩, hcn⟩ : ∃ cn, cn = Fold.one (t.drop (p + 2)) := ⟨_, rfl⟩
          have hle := Fold.one_le (t.drop (p + 2))
          rw [← hcn] at hstep hle
          rw [List.length_drop] at hle
          simp only [if_true] at hstep
          have hnk : p + 2 + n ≤ k := by have := HTL.out; simp only at hle; omega
          have hcall : Hid (∀ W : World, Below w.heap.size w W → Calls Tryd.prog 22 #[.slice (cutA A ca (p + 2) 1) (k - (p + 2)) (ca - (p + 2))] W fun e w' => e = .returned (.tuple #[.int .u8 c.toNat, .int .i64 n]) ∧ ∃ m, w' = W.drewN m) := fun W hW => by
            have := HONE.out (p + 2) (by omega) W hW
            unfold OneAns at this
            rwa [← hcn] at this
          have hs1 := HSL.out (p + 2) (by omega)
          rw [show ((p + 2 : Nat) : Int) = (p : Int) + 2 by omega] at hs1
          have HSTEP := Lib.hid hstep
          clear hstep hcn hle hfr
          by_cases hn0 : n = 0
          · subst hn0
            have hfin : Fold.back b = none := by rw [HGO.out, HSTEP.out, if_pos rfl]; rfl
            have HFIN := Lib.hid hfin
            clear hfin
            go_wp2_with (first | (go_at_call 21; refine (hpc.out _ (HBW.out.alloc hwz _) _ _ (SliceAt.newBytes wr _ _ [92, 10] 2 (by simp) (by simp [maxLen]) rfl (2, 3))).mono ?_; rintro e w2 ⟨rfl, rfl⟩) | (go_at_call 22; refine (hcall.out _ (HBA.out 0)).mono ?_; rintro e w2 ⟨rfl, m, rfl⟩))
            go_ret2
            exact ⟨by rw [HFIN.out]; rfl, below_drew' (HBA.out 0) _⟩
          · have hn0' : ((n : Int) == 0) = false := by rw [beq_eq_false_iff_ne]; omega
            have hnew : Fold.back b = (Fold.backGo t.length (decide (p + 2 + n = 0)) (n) (max lg (n)) (min rm (r + n)) (t.drop (p + 2 + n))).map (ob ++ [c] ++ ·) := by
              rw [HGO.out, HSTEP.out, if_neg hn0, Option.map_map]
              have hz : decide (p + 2 + n = 0) = false := by rw [decide_eq_false_iff_not]; omega
              rw [hz]
              congr 1
              funext x
              simp
            have HNEW := Lib.hid hnew
            clear hnew
            go_wp2_with (first | (go_at_call 21; refine (hpc.out _ (HBW.out.alloc hwz _) _ _ (SliceAt.newBytes wr _ _ [92, 10] 2 (by simp) (by simp [maxLen]) rfl (2, 3))).mono ?_; rintro e w2 ⟨rfl, rfl⟩) | (go_at_call 22; refine (hcall.out _ (HBA.out 0)).mono ?_; rintro e w2 ⟨rfl, m, rfl⟩) | (at_builtin; refine wpList_append_bytes _ rfl (.tmp 61) (.tmp 63) 22 rfl w.heap.size 5 stBytes _ _ rfl (((HO.out.alloc _).drewN _).alloc _) _ _ _ _ [c] rfl (SliceAt.newBytesAt _ _ _ [c] 1 _ (by simp) (by simp [maxLen]) rfl (by simp)) rfl (by have := HOB.out; omega) (by have := hwz; simp; omega) ?_; intro v3 w3 hown3 hg3 hat3; have HB3 := Lib.hid (below_own ((below_drew' (HBA.out 0) _).alloc (by have := hwz; simp; omega) _) (((HO.out.alloc _).drewN _).alloc _) hg3 (by have := hwz; simp; omega)); have HO3 := Lib.hid hown3; clear hown3 hg3 hat3))
            all_goals go_roundw
            all_goals first
              | exact ⟨p + 2 + n, n, max lg (n), min rm (r + n), _, by omega, by go_num, by go_num, by congr 1; omega, by first | rfl | (congr 1; omega), HO3.out, HB3.out, HNEW.out, by have := HOB.out; simp; omega, by omega, by omega, by omega⟩
              | (simp [intOf]; omega)
        | false =>
          have hfr : false = (!decide (p = 0) && [92, 10].isPrefixOf (t.drop p)) := by rw [hpf]; simp
          have hpc : Hid (∀ (W : World), Below w.heap.size w W → ∀ (B : Option Addr) (S' : Blocks), SliceAt Rep.byte W S' B 2 [92, 10] → Calls Tryd.prog 21 #[.slice (cutA A ca p 1) (k - p) (ca - p), .slice B 2 2] W fun e w' => e = .returned (.bool false) ∧ w' = W) := fun W hW B S' hy => HPRE.out p false (by omega) hpf W B S' hW hy
          clear hpf
          have hstep := backGo_step t p hpt r lg rm false (t.drop (p)) (p) hfr rfl rfl
          obtain ⟨⟨c, n⟩, hcn⟩ : ∃ cn, cn = Fold.one (t.drop (p)) := ⟨_, rfl⟩
          have hle := Fold.one_le (t.drop (p))
          rw [← hcn] at hstep hle
          rw [List.length_drop] at hle
          simp only [Bool.false_eq_true, if_false] at hstep
          have hnk : p + n ≤ k := by have := HTL.out; simp only at hle; omega
          have hcall : Hid (∀ W : World, Below w.heap.size w W → Calls Tryd.prog 22 #[.slice (cutA A ca (p) 1) (k - (p)) (ca - (p))] W fun e w' => e = .returned (.tuple #[.int .u8 c.toNat, .int .i64 n]) ∧ ∃ m, w' = W.drewN m) := fun W hW => by
            have := HONE.out (p) (by omega) W hW
            unfold OneAns at this
            rwa [← hcn] at this
          have hs1 := HSL.out (p) (by omega)
          have HSTEP := Lib.hid hstep
          clear hstep hcn hle hfr
          by_cases hn0 : n = 0
          · subst hn0
            have hfin : Fold.back b = none := by rw [HGO.out, HSTEP.out, if_pos rfl]; rfl
            have HFIN := Lib.hid hfin
            clear hfin
            go_wp2_with (first | (go_at_call 21; refine (hpc.out _ (HBW.out.alloc hwz _) _ _ (SliceAt.newBytes wr _ _ [92, 10] 2 (by simp) (by simp [maxLen]) rfl (2, 3))).mono ?_; rintro e w2 ⟨rfl, rfl⟩) | (go_at_call 22; refine (hcall.out _ (HBA.out 0)).mono ?_; rintro e w2 ⟨rfl, m, rfl⟩))
            go_ret2
            exact ⟨by rw [HFIN.out]; rfl, below_drew' (HBA.out 0) _⟩
          · have hn0' : ((n : Int) == 0) = false := by rw [beq_eq_false_iff_ne]; omega
            have hnew : Fold.back b = (Fold.backGo t.length (decide (p + n = 0)) (r + n) (max lg (r + n)) (rm) (t.drop (p + n))).map (ob ++ [c] ++ ·) := by
              rw [HGO.out, HSTEP.out, if_neg hn0, Option.map_map]
              have hz : decide (p + n = 0) = false := by rw [decide_eq_false_iff_not]; omega
              rw [hz]
              congr 1
              funext x
              simp
            have HNEW := Lib.hid hnew
            clear hnew
            go_wp2_with (first | (go_at_call 21; refine (hpc.out _ (HBW.out.alloc hwz _) _ _ (SliceAt.newBytes wr _ _ [92, 10] 2 (by simp) (by simp [maxLen]) rfl (2, 3))).mono ?_; rintro e w2 ⟨rfl, rfl⟩) | (go_at_call 22; refine (hcall.out _ (HBA.out 0)).mono ?_; rintro e w2 ⟨rfl, m, rfl⟩) | (at_builtin; refine wpList_append_bytes _ rfl (.tmp 61) (.tmp 63) 22 rfl w.heap.size 5 stBytes _ _ rfl (((HO.out.alloc _).drewN _).alloc _) _ _ _ _ [c] rfl (SliceAt.newBytesAt _ _ _ [c] 1 _ (by simp) (by simp [maxLen]) rfl (by simp)) rfl (by have := HOB.out; omega) (by have := hwz; simp; omega) ?_; intro v3 w3 hown3 hg3 hat3; have HB3 := Lib.hid (below_own ((below_drew' (HBA.out 0) _).alloc (by have := hwz; simp; omega) _) (((HO.out.alloc _).drewN _).alloc _) hg3 (by have := hwz; simp; omega)); have HO3 := Lib.hid hown3; clear hown3 hg3 hat3))
            all_goals go_roundw
            all_goals first
              | exact ⟨p + n, r + n, max lg (r + n), rm, _, by omega, by go_num, by go_num, by congr 1; omega, by first | rfl | (congr 1; omega), HO3.out, HB3.out, HNEW.out, by have := HOB.out; simp; omega, by omega, by omega, by omega⟩
              | (simp [intOf]; omega)
    · obtain rfl : p = k := by omega
      have hd : t.drop p = [] := List.drop_of_length_le (by have := HTL.out; omega)
      by_cases hlr : rm ≤ lg
      · have hfin : Fold.back b = none := by rw [HGO.out, hd, Fold.backGo_nil, if_pos hlr]; rfl
        have HFIN := Lib.hid hfin
        have hlr' : (rm : Int) ≤ lg := by omega
        clear hfin hd
        go_wp2
        go_ret2
        exact ⟨by rw [HFIN.out]; rfl, HBW.out⟩
      · have hfin : Fold.back b = some ob := by rw [HGO.out, hd, Fold.backGo_nil, if_neg hlr]; simp
        have HFIN := Lib.hid hfin
        have hlr' : ¬ (rm : Int) ≤ lg := by omega
        clear hfin hd
        go_wp2
        go_ret2
        exact ⟨by rw [HFIN.out]; exact ⟨_, rfl, HO.out⟩, HBW.out⟩
end Go.Proofs.YtgbjcpnlllaeeaaDoor
