/- Disks that are none: the walk of galleylaw03.DiskNil (printed by gen/disknil.py). No conditions. -/
import Derived.Test.YtignnohjggjkoaaLives03
namespace Go.Proofs.Ytignnohjggjkoaa
open Go.RowKit Go.ChangeShapes Go.WideShapes Go.Deep

theorem zero_nd (w : World) : ND (.pointer (some ⟨w.heap.size, 0, none⟩)) (w.alloc (.cells #[.map none, .map none, .slice none 0 0, .bool false, .bool false, .int .i64 0, .slice none 0 0, .int .i64 0, .int .i64 0] 71)) := nd_zero _ _ (heap_alloc_new w _)
set_option maxRecDepth 100000 in
set_option maxHeartbeats 8000000 in
theorem diskNil_any (s : ByteArray) (v1 v2 : Value) (w : World) : Calls Try.prog 7 #[.string s, v1, v2] w fun e w' => e = .returned (.bool true) ∧ Below w.heap.size w w' := by
  go_enter Try.func7, Try.ntmps7
  go_wp2_with fail
  go_loopg [8, 9, 10, 11, 12, 13] 2 (fun q i _ _ _ _ _ wr => ∃ j : Nat, q = 2 - j ∧ j ≤ 2 ∧ i = .int .i64 j ∧ Hid (Below w.heap.size w wr))
  case atStart => exact ⟨0, rfl, by omega, rfl, Lib.hid (Below.refl _ _)⟩
  case round =>
    obtain ⟨j, rfl, hj, rfl, HB⟩ := hrel
    by_cases hj2 : j < 2
    · obtain ⟨w0, rfl⟩ : ∃ W : World, W = wr := ⟨_, rfl⟩
      rcases (show j = 0 ∨ j = 1 by omega) with rfl | rfl
      · obtain ⟨p, hp⟩ : ∃ p : Value, p = .pointer none := ⟨_, rfl⟩
        have HN : Hid (ND p w0) := Lib.hid (by rw [hp]; exact nd_nil w0)
        have HP := Lib.hid hp
        subst hp
        clear hj hj2
        go_wp2_with fail
        refine (plan_nd _ _ v2 HN).mono ?_
        rintro e w20 ⟨rfl, rfl⟩
        go_wp2_with fail
        refine (make_nd _ _ s HN).mono ?_
        rintro e w21 ⟨rfl, hb⟩
        have HN := Lib.hid (HN.out.far hb)
        have HB := Lib.hid (HB.out.trans (hb.mono HB.out.size))
        clear hb
        go_wp2_with fail
        refine (append_nd _ _ s v1 HN).mono ?_
        rintro e w22 ⟨rfl, hb⟩
        have HN := Lib.hid (HN.out.far hb)
        have HB := Lib.hid (HB.out.trans (hb.mono HB.out.size))
        clear hb
        go_wp2_with fail
        refine (sync_nd _ _ s HN).mono ?_
        rintro e w23 ⟨rfl, hb⟩
        have HN := Lib.hid (HN.out.far hb)
        have HB := Lib.hid (HB.out.trans (hb.mono HB.out.size))
        clear hb
        go_wp2_with fail
        refine (rename_nd _ _ s s HN).mono ?_
        rintro e w24 ⟨rfl, hb⟩
        have HN := Lib.hid (HN.out.far hb)
        have HB := Lib.hid (HB.out.trans (hb.mono HB.out.size))
        clear hb
        go_wp2_with fail
        refine (remove_nd _ _ s HN).mono ?_
        rintro e w25 ⟨rfl, hb⟩
        have HN := Lib.hid (HN.out.far hb)
        have HB := Lib.hid (HB.out.trans (hb.mono HB.out.size))
        clear hb
        go_wp2_with fail
        refine (syncDir_nd _ _ HN).mono ?_
        rintro e w26 ⟨rfl, rfl⟩
        go_wp2_with fail
        refine (spoil_nd _ _ s true HN).mono ?_
        rintro e w27 ⟨rfl, hb⟩
        have HN := Lib.hid (HN.out.far hb)
        have HB := Lib.hid (HB.out.trans (hb.mono HB.out.size))
        clear hb
        go_wp2_with fail
        obtain ⟨wq, hwq⟩ : ∃ W, W = w27.alloc (.cells #[.int .i64 1, .int .i64 1, .int .i64 1, .int .i64 1, .int .i64 1, .int .i64 1, .int .i64 1, .int .i64 1] 29) := ⟨_, rfl⟩
        have HN := Lib.hid (HN.out.far (w' := wq) (by rw [hwq]; exact Below.alloc (Below.refl _ _) (Nat.le_refl _) _))
        have HB : Hid (Below w.heap.size w wq) := Lib.hid (by rw [hwq]; exact HB.out.alloc HB.out.size _)
        have HC : Hid (∀ k, k < 8 → wq.cell? ⟨w27.heap.size, k, none⟩ = some (.int .i64 1)) := Lib.hid fun k hk => by
          rw [hwq]
          refine (cell_of_row _ _ k _ _ (0, 0) (heap_alloc_new w27 _)).trans ?_
          match k, hk with
          | 0, _ => rfl
          | 1, _ => rfl
          | 2, _ => rfl
          | 3, _ => rfl
          | 4, _ => rfl
          | 5, _ => rfl
          | 6, _ => rfl
          | 7, _ => rfl
        rw [← hwq]
        clear hwq
        go_loopg [11] 8 (fun q i wr => ∃ k : Nat, q = 8 - k ∧ k ≤ 8 ∧ i = .int .i64 k ∧ Hid (wr = wq))
        case atStart => exact ⟨0, rfl, by omega, rfl, Lib.hid rfl⟩
        case round =>
          obtain ⟨k, rfl, hk, rfl, HW⟩ := hrel
          by_cases hk8 : k < 8
          · have hc := HC.out k hk8
            rw [← HW.out] at hc
            go_wp2_with fail
            go_roundg (8 - (k + 1))
            case measure => omega
            case rel => exact ⟨k + 1, rfl, by omega, by go_num, HW⟩
          · obtain rfl : k = 8 := by omega
            obtain rfl := HW.out
            clear HC
            go_wp2_with fail
            refine (read_nd _ _ s HN).mono ?_
            rintro e w30 ⟨rfl, hb⟩
            have HN := Lib.hid (HN.out.far hb)
            have HB := Lib.hid (HB.out.trans (hb.mono HB.out.size))
            clear hb
            go_wp2_with fail
            refine (off_nd _ _ HN).mono ?_
            rintro e w31 ⟨rfl, rfl⟩
            go_wp2_with fail
            have HN := Lib.hid (HN.out.far (Below.alloc (Below.refl _ _) (Nat.le_refl _) (.cells #[.int .i64 1] 3)))
            have HB := Lib.hid (HB.out.alloc HB.out.size (.cells #[.int .i64 1] 3))
            refine (start_nd _ _ 1 _ HN).mono ?_
            rintro e w32 ⟨rfl, rfl⟩
            go_wp2_with fail
            refine (names_nd _ _ HN).mono ?_
            rintro e w33 ⟨rfl, rfl⟩
            go_wp2_with fail
            refine (files_nd _ _ HN).mono ?_
            rintro e w34 ⟨rfl, rfl⟩
            go_wp2_with fail
            refine (power_nd _ _ HN).mono ?_
            rintro e w35 ⟨rfl, rfl⟩
            go_wp2_with fail
            refine (pending_nd _ _ HN).mono ?_
            rintro e w36 ⟨rfl, rfl⟩
            go_wp2_with fail
            refine (done_nd _ _ HN).mono ?_
            rintro e w37 ⟨rfl, rfl⟩
            go_wp2_with fail
            go_roundg (2 - 1)
            case measure => omega
            case rel => exact ⟨1, by omega, by omega, rfl, HB⟩
      · obtain ⟨p, hp⟩ : ∃ p : Value, p = .pointer (some ⟨w0.heap.size, 0, none⟩) := ⟨_, rfl⟩
        have HN : Hid (ND p (w0.alloc (.cells #[.map none, .map none, .slice none 0 0, .bool false, .bool false, .int .i64 0, .slice none 0 0, .int .i64 0, .int .i64 0] 71))) := Lib.hid (by rw [hp]; exact zero_nd w0)
        have HB := Lib.hid (HB.out.alloc HB.out.size (.cells #[.map none, .map none, .slice none 0 0, .bool false, .bool false, .int .i64 0, .slice none 0 0, .int .i64 0, .int .i64 0] 71))
        have HP := Lib.hid hp
        subst hp
        clear hj hj2
        go_wp2_with fail
        refine (plan_nd _ _ v2 HN).mono ?_
        rintro e w20 ⟨rfl, rfl⟩
        go_wp2_with fail
        refine (make_nd _ _ s HN).mono ?_
        rintro e w21 ⟨rfl, hb⟩
        have HN := Lib.hid (HN.out.far hb)
        have HB := Lib.hid (HB.out.trans (hb.mono HB.out.size))
        clear hb
        go_wp2_with fail
        refine (append_nd _ _ s v1 HN).mono ?_
        rintro e w22 ⟨rfl, hb⟩
        have HN := Lib.hid (HN.out.far hb)
        have HB := Lib.hid (HB.out.trans (hb.mono HB.out.size))
        clear hb
        go_wp2_with fail
        refine (sync_nd _ _ s HN).mono ?_
        rintro e w23 ⟨rfl, hb⟩
        have HN := Lib.hid (HN.out.far hb)
        have HB := Lib.hid (HB.out.trans (hb.mono HB.out.size))
        clear hb
        go_wp2_with fail
        refine (rename_nd _ _ s s HN).mono ?_
        rintro e w24 ⟨rfl, hb⟩
        have HN := Lib.hid (HN.out.far hb)
        have HB := Lib.hid (HB.out.trans (hb.mono HB.out.size))
        clear hb
        go_wp2_with fail
        refine (remove_nd _ _ s HN).mono ?_
        rintro e w25 ⟨rfl, hb⟩
        have HN := Lib.hid (HN.out.far hb)
        have HB := Lib.hid (HB.out.trans (hb.mono HB.out.size))
        clear hb
        go_wp2_with fail
        refine (syncDir_nd _ _ HN).mono ?_
        rintro e w26 ⟨rfl, rfl⟩
        go_wp2_with fail
        refine (spoil_nd _ _ s true HN).mono ?_
        rintro e w27 ⟨rfl, hb⟩
        have HN := Lib.hid (HN.out.far hb)
        have HB := Lib.hid (HB.out.trans (hb.mono HB.out.size))
        clear hb
        go_wp2_with fail
        obtain ⟨wq, hwq⟩ : ∃ W, W = w27.alloc (.cells #[.int .i64 1, .int .i64 1, .int .i64 1, .int .i64 1, .int .i64 1, .int .i64 1, .int .i64 1, .int .i64 1] 29) := ⟨_, rfl⟩
        have HN := Lib.hid (HN.out.far (w' := wq) (by rw [hwq]; exact Below.alloc (Below.refl _ _) (Nat.le_refl _) _))
        have HB : Hid (Below w.heap.size w wq) := Lib.hid (by rw [hwq]; exact HB.out.alloc HB.out.size _)
        have HC : Hid (∀ k, k < 8 → wq.cell? ⟨w27.heap.size, k, none⟩ = some (.int .i64 1)) := Lib.hid fun k hk => by
          rw [hwq]
          refine (cell_of_row _ _ k _ _ (0, 0) (heap_alloc_new w27 _)).trans ?_
          match k, hk with
          | 0, _ => rfl
          | 1, _ => rfl
          | 2, _ => rfl
          | 3, _ => rfl
          | 4, _ => rfl
          | 5, _ => rfl
          | 6, _ => rfl
          | 7, _ => rfl
        rw [← hwq]
        clear hwq
        go_loopg [11] 8 (fun q i wr => ∃ k : Nat, q = 8 - k ∧ k ≤ 8 ∧ i = .int .i64 k ∧ Hid (wr = wq))
        case atStart => exact ⟨0, rfl, by omega, rfl, Lib.hid rfl⟩
        case round =>
          obtain ⟨k, rfl, hk, rfl, HW⟩ := hrel
          by_cases hk8 : k < 8
          · have hc := HC.out k hk8
            rw [← HW.out] at hc
            go_wp2_with fail
            go_roundg (8 - (k + 1))
            case measure => omega
            case rel => exact ⟨k + 1, rfl, by omega, by go_num, HW⟩
          · obtain rfl : k = 8 := by omega
            obtain rfl := HW.out
            clear HC
            go_wp2_with fail
            refine (read_nd _ _ s HN).mono ?_
            rintro e w30 ⟨rfl, hb⟩
            have HN := Lib.hid (HN.out.far hb)
            have HB := Lib.hid (HB.out.trans (hb.mono HB.out.size))
            clear hb
            go_wp2_with fail
            refine (off_nd _ _ HN).mono ?_
            rintro e w31 ⟨rfl, rfl⟩
            go_wp2_with fail
            have HN := Lib.hid (HN.out.far (Below.alloc (Below.refl _ _) (Nat.le_refl _) (.cells #[.int .i64 1] 3)))
            have HB := Lib.hid (HB.out.alloc HB.out.size (.cells #[.int .i64 1] 3))
            refine (start_nd _ _ 1 _ HN).mono ?_
            rintro e w32 ⟨rfl, rfl⟩
            go_wp2_with fail
            refine (names_nd _ _ HN).mono ?_
            rintro e w33 ⟨rfl, rfl⟩
            go_wp2_with fail
            refine (files_nd _ _ HN).mono ?_
            rintro e w34 ⟨rfl, rfl⟩
            go_wp2_with fail
            refine (power_nd _ _ HN).mono ?_
            rintro e w35 ⟨rfl, rfl⟩
            go_wp2_with fail
            refine (pending_nd _ _ HN).mono ?_
            rintro e w36 ⟨rfl, rfl⟩
            go_wp2_with fail
            refine (done_nd _ _ HN).mono ?_
            rintro e w37 ⟨rfl, rfl⟩
            go_wp2_with fail
            go_roundg (2 - 2)
            case measure => omega
            case rel => exact ⟨2, by omega, by omega, rfl, HB⟩
    · obtain rfl : j = 2 := by omega
      go_wp2_with fail
      refine lives_any.mono ?_
      rintro e w9 ⟨rfl, hb⟩
      have HB9 := Lib.hid hb
      clear hb
      go_wp2_with fail
      go_ret
      exact ⟨rfl, HB.out.trans (HB9.out.mono HB.out.size)⟩
end Go.Proofs.Ytignnohjggjkoaa
