/- Bytes shown: the walks of fold.kind, piece, Row. Conditions: the table of letters lies as its initialiser lays it; at most 2^30 bytes. -/
import Derived.Test.YtgbjcpnlllaeeaaDoorProg
import Derived.Test.YtgbjcpnlllaeeaaDoorMem
import Derived.Test.YtgbjcpnlllaeeaaDoorStBytes
import Derived.Test.YtgbjcpnlllaeeaaDoorOnly
import Derived.Test.YtgbjcpnlllaeeaaDoorFoldPlain
import Derived.WalkKit
import Derived.WalkSpells
import Derived.Deep.QuietTactic
import Derived.BigQuiet
import Derived.Lib.Hide
import Derived.Deep.DeepMust
namespace Go.Proofs.YtgbjcpnlllaeeaaDoor
open Go.RowKit

set_option maxHeartbeats 1000000 in
theorem kind_any (c : UInt8) (w : World) : Calls Tryd.prog 47 #[.int .u8 c.toNat] w fun e w' => e = .returned (.int .i64 (Fold.kind c : Nat)) ∧ w' = w := by
  rcases Fold.kind_lt c with ⟨hk, h1, h2, h3, h4⟩ | ⟨hk, h⟩ | ⟨hk, h1, h2, h3⟩
  · have h1' : ((c.toNat : Int) == 92) = false := by rw [beq_eq_false_iff_ne]; omega
    have h3' : (32 : Int) ≤ c.toNat := by omega
    have h3'' : (7 : Int) ≤ c.toNat := by omega
    have h4' : (c.toNat : Int) ≤ 126 := by omega
    have h5' : ¬ (c.toNat : Int) ≤ 13 := by omega
    rw [hk]
    clear hk h1 h2 h3 h4
    go_enter Tryd.func47, Tryd.ntmps47
    go_wp2
    go_ret
    exact ⟨rfl, rfl⟩
  · rw [hk]
    by_cases h92 : c.toNat = 92
    · rw [h92]
      clear hk h h92
      go_enter Tryd.func47, Tryd.ntmps47
      go_wp2
      go_ret
      exact ⟨rfl, rfl⟩
    · have h1' : ((c.toNat : Int) == 92) = false := by rw [beq_eq_false_iff_ne]; omega
      have h3' : (7 : Int) ≤ c.toNat := by omega
      have h4' : (c.toNat : Int) ≤ 13 := by omega
      clear hk h h92
      go_enter Tryd.func47, Tryd.ntmps47
      go_wp2
      go_ret
      exact ⟨rfl, rfl⟩
  · rw [hk]
    have h1' : ((c.toNat : Int) == 92) = false := by rw [beq_eq_false_iff_ne]; omega
    have hlt := c.toNat_lt
    rcases (show c.toNat < 7 ∨ (14 ≤ c.toNat ∧ c.toNat < 32) ∨ 126 < c.toNat by omega) with h | h | h
    · have h2' : ¬ (7 : Int) ≤ c.toNat := by omega
      have h3' : ¬ (32 : Int) ≤ c.toNat := by omega
      clear hk h1 h2 h3 h
      go_enter Tryd.func47, Tryd.ntmps47
      go_wp2
      go_ret
      exact ⟨rfl, rfl⟩
    · have h2' : (7 : Int) ≤ c.toNat := by omega
      have h5' : ¬ (c.toNat : Int) ≤ 13 := by omega
      have h3' : ¬ (32 : Int) ≤ c.toNat := by omega
      clear hk h1 h2 h3 h
      go_enter Tryd.func47, Tryd.ntmps47
      go_wp2
      go_ret
      exact ⟨rfl, rfl⟩
    · have h2' : (7 : Int) ≤ c.toNat := by omega
      have h5' : ¬ (c.toNat : Int) ≤ 13 := by omega
      have h3' : (32 : Int) ≤ c.toNat := by omega
      have h4' : ¬ (c.toNat : Int) ≤ 126 := by omega
      clear hk h1 h2 h3 h
      go_enter Tryd.func47, Tryd.ntmps47
      go_wp2
      go_ret
      exact ⟨rfl, rfl⟩

/-- The table of letters lies in block 0. -/
def Ltrs (w : World) : Prop := ∀ i, i < 7 → w.cell? ⟨0, i, none⟩ = some (.int .u8 (Fold.ltr i).toNat)
theorem Ltrs.below {w w' : World} {B : Nat} (h : Ltrs w) (hb : Below B w w') (hB : 0 < B) : Ltrs w' := fun i hi => (hb.cell (p := ⟨0, i, none⟩) hB).trans (h i hi)
theorem Own.cut0 {α : Type} {r : Rep α} {e : TypeId} {w : World} {base : Nat} {A : Option Addr} {n c : Nat} {l : List α} (h : Own r e w base nob (.slice A n c) l) : Own r e w base nob (.slice A 0 c) ([] : List α) := by
  obtain ⟨xs, hx, hS, h1, hr⟩ := h
  refine ⟨[], ⟨by simp, ?_⟩, fun _ h => h.elim, by simp, fun i hi => absurd hi (by simp)⟩
  rcases hx.2 with ⟨h, h0⟩ | ⟨g, cap, cur, h, hb, hg, hle, hmax, hsz, htk⟩
  · simp only [Value.slice.injEq] at h
    obtain ⟨rfl, rfl, rfl⟩ := h
    exact .inl ⟨rfl, rfl⟩
  · simp only [Value.slice.injEq] at h
    obtain ⟨rfl, rfl, rfl⟩ := h
    exact .inr ⟨g, c, cur, rfl, hb, hg, Nat.zero_le _, hmax, hsz, by simp⟩

section
variable (vp : Value) (l0 : List UInt8) (c : UInt8) (w : World) (B : Nat) (hB : B ≤ w.heap.size) (ho : Hid (Own Rep.byte 5 w B nob vp l0)) (hl : l0.length ≤ 34359738368)
include hB ho hl
/-- What piece answers. -/
def PieceAns (e : Ending) (w' : World) : Prop := ∃ v', e = .returned v' ∧ Own Rep.byte 5 w' B nob v' (l0 ++ Fold.piece c) ∧ Only (fun b => some b = vp.ownBlock) w w' ∧ (v'.ownBlock = vp.ownBlock ∨ ∃ q, v'.ownBlock = some q ∧ w.heap.size ≤ q)
omit hB ho hl in
theorem pieceAns (o : Obj) (v1 : Value) (w1 : World) (s : List UInt8) (hs : Fold.piece c = s) (h1 : Own Rep.byte 5 w1 B nob v1 (l0 ++ s)) (hg : (w.alloc o).grownBy w1 vp.ownBlock) (hat : v1.ownBlock = vp.ownBlock ∨ v1.ownBlock = some (w.alloc o).heap.size) : PieceAns vp l0 c w B (.returned v1) w1 := by
  refine ⟨v1, rfl, by rw [hs]; exact h1, ((Only.refl _ w).alloc _).grown hg (fun b hb => .inl hb), ?_⟩
  rcases hat with h | h
  · exact .inl h
  · exact .inr ⟨_, h, by simp⟩

set_option maxHeartbeats 1000000 in
theorem piece_itself (hk : Fold.kind c = 0) (hp : Fold.piece c = [c]) : Calls Tryd.prog 23 #[vp, .int .u8 c.toNat] w fun e w' => PieceAns vp l0 c w B e w' := by
  have HK := Lib.hid hk
  have HP := Lib.hid hp
  clear hk hp
  go_enter Tryd.func23, Tryd.ntmps23
  go_wp2_with (first | (go_at_call 47; refine (kind_any _ _).mono ?_; rw [HK.out]; rintro e w' ⟨rfl, rfl⟩) | (at_builtin; refine wpList_append_bytes _ rfl (.tmp 9) (.tmp 11) 22 rfl B 5 stBytes _ _ rfl (ho.out.alloc _) _ _ _ _ [c] rfl (SliceAt.newBytes _ _ _ [c] 1 (by simp) (by simp [maxLen]) rfl) rfl (by omega) (by simp; omega) ?_; intro v1 w1 hown1 hg1 hat1))
  go_ret
  exact pieceAns _ _ _ _ _ _ _ _ _ HP.out hown1 hg1 hat1
set_option maxHeartbeats 1000000 in
theorem piece_back (h92 : c = 92) : Calls Tryd.prog 23 #[vp, .int .u8 c.toNat] w fun e w' => PieceAns vp l0 c w B e w' := by
  subst h92
  have hk : Fold.kind 92 = 1 := rfl
  have hp : Fold.piece 92 = [92, 92] := rfl
  have HK := Lib.hid hk
  have HP := Lib.hid hp
  clear hk hp
  have hnew := SliceAt.newRow Rep.byte w 5 #[.int .u8 92, .int .u8 92] [92, 92] nob 2 2 rfl (by omega) (by simp [maxLen]) (fun i hi => by
    match i, hi with
    | 0, _ => rfl
    | 1, _ => rfl) (fun _ h => h.elim)
  have HNEW := Lib.hid hnew
  clear hnew
  show Calls Tryd.prog 23 #[vp, .int .u8 92] w _
  go_enter Tryd.func23, Tryd.ntmps23
  go_wp2_with (first | (go_at_call 47; refine (kind_any 92 _).mono ?_; rw [HK.out]; rintro e w' ⟨rfl, rfl⟩) | (at_builtin; refine wpList_append_bytes _ rfl (.tmp 17) (.tmp 20) 22 rfl B 5 stBytes _ _ rfl (ho.out.alloc _) _ _ _ _ [92, 92] rfl HNEW.out rfl (by omega) (by simp; omega) ?_; intro v1 w1 hown1 hg1 hat1))
  go_ret
  exact pieceAns _ _ _ _ _ _ _ _ _ HP.out hown1 hg1 hat1

set_option maxHeartbeats 4000000 in
theorem piece_letter (k : Nat) (hk7 : k < 7) (hc : c.toNat = 7 + k) (hL : Hid (Ltrs w)) : Calls Tryd.prog 23 #[vp, .int .u8 c.toNat] w fun e w' => PieceAns vp l0 c w B e w' := by
  have hkind : Fold.kind c = 1 := by unfold Fold.kind; rw [if_pos (.inr (by omega))]
  have hp : Fold.piece c = [92, Fold.ltr k] := by
    unfold Fold.piece
    rw [if_neg (by omega), if_pos (by omega), hc, Nat.add_sub_cancel_left]
  have HK := Lib.hid hkind
  have HP := Lib.hid hp
  have hcell := hL.out k hk7
  obtain ⟨d, hd⟩ : ∃ d, d = Fold.ltr k := ⟨_, rfl⟩
  rw [← hd] at hcell HP
  have hnew := SliceAt.newRow Rep.byte w 5 #[.int .u8 92, .int .u8 d.toNat] [92, d] nob 2 2 rfl (by omega) (by simp [maxLen]) (fun i hi => by
    match i, hi with
    | 0, _ => rfl
    | 1, _ => rfl) (fun _ h => h.elim)
  have HNEW := Lib.hid hnew
  have hc' : c = UInt8.ofNat (7 + k) := by rw [← hc, UInt8.ofNat_toNat]
  have HC := Lib.hid hc'
  clear hnew hp hkind hd hc'
  have hkk := kind_any c
  have HKK := Lib.hid hkk
  clear hkk
  rw [hc] at HKK ⊢
  have hs : k = 0 ∨ k = 1 ∨ k = 2 ∨ k = 3 ∨ k = 4 ∨ k = 5 ∨ k = 6 := by omega
  clear hc hk7
  rcases hs with rfl | rfl | rfl | rfl | rfl | rfl | rfl
  all_goals
    go_enter Tryd.func23, Tryd.ntmps23
    go_wp2_with (first | (go_at_call 47; refine (HKK.out _).mono ?_; rw [HK.out]; rintro e w' ⟨rfl, rfl⟩) | (at_builtin; refine wpList_append_bytes _ rfl (.tmp 22) (.tmp 27) 22 rfl B 5 stBytes _ _ rfl (ho.out.alloc _) _ _ _ _ [92, d] rfl HNEW.out rfl (by omega) (by simp; omega) ?_; intro v1 w1 hown1 hg1 hat1))
    go_ret
    exact pieceAns _ _ _ _ _ _ _ _ _ HP.out hown1 hg1 hat1

set_option maxRecDepth 100000 in
set_option maxHeartbeats 4000000 in
theorem piece_octal (hk : Fold.kind c = 2) (hp : Fold.piece c = [92, UInt8.ofNat (48 + c.toNat / 64), UInt8.ofNat (48 + c.toNat / 8 % 8), UInt8.ofNat (48 + c.toNat % 8)]) : Calls Tryd.prog 23 #[vp, .int .u8 c.toNat] w fun e w' => PieceAns vp l0 c w B e w' := by
  have HK := Lib.hid hk
  have HP := Lib.hid hp
  have hlt := c.toNat_lt
  have hnew := SliceAt.newRow Rep.byte w 5 #[.int .u8 92, .int .u8 (48 + (c.toNat : Int) / 64), .int .u8 (48 + (c.toNat : Int) / 8 % 8), .int .u8 (48 + (c.toNat : Int) % 8)] [92, UInt8.ofNat (48 + c.toNat / 64), UInt8.ofNat (48 + c.toNat / 8 % 8), UInt8.ofNat (48 + c.toNat % 8)] nob 4 4 rfl (by omega) (by simp [maxLen]) (fun i hi => by
    have a1 := Fold.ofN (48 + c.toNat / 64) (by omega)
    have a2 := Fold.ofN (48 + c.toNat / 8 % 8) (by omega)
    have a3 := Fold.ofN (48 + c.toNat % 8) (by omega)
    match i, hi with
    | 0, _ => rfl
    | 1, _ => show [Value.int .u8 (48 + (c.toNat : Int) / 64)] = [Value.int .u8 ((UInt8.ofNat (48 + c.toNat / 64)).toNat : Int)]; rw [a1]; simp
    | 2, _ => show [Value.int .u8 (48 + (c.toNat : Int) / 8 % 8)] = [Value.int .u8 ((UInt8.ofNat (48 + c.toNat / 8 % 8)).toNat : Int)]; rw [a2]; simp
    | 3, _ => show [Value.int .u8 (48 + (c.toNat : Int) % 8)] = [Value.int .u8 ((UInt8.ofNat (48 + c.toNat % 8)).toNat : Int)]; rw [a3]; simp) (fun _ h => h.elim)
  have HNEW := Lib.hid hnew
  clear hk hp hnew
  go_enter Tryd.func23, Tryd.ntmps23
  go_wp2_with (first | (go_at_call 47; refine (kind_any _ _).mono ?_; rw [HK.out]; rintro e w' ⟨rfl, rfl⟩) | (at_builtin; refine wpList_append_bytes _ rfl (.tmp 29) (.tmp 40) 22 rfl B 5 stBytes _ _ rfl (ho.out.alloc _) _ _ _ _ _ rfl HNEW.out rfl (by simp; omega) (by simp; omega) ?_; intro v1 w1 hown1 hg1 hat1))
  go_ret
  exact pieceAns _ _ _ _ _ _ _ _ _ HP.out hown1 hg1 hat1

/-- A byte's piece behind others. -/
theorem piece_any (hL : Hid (Ltrs w)) : Calls Tryd.prog 23 #[vp, .int .u8 c.toNat] w fun e w' => PieceAns vp l0 c w B e w' := by
  rcases Fold.kind_lt c with ⟨hk, h1, h2, h3, h4⟩ | ⟨hk, h⟩ | ⟨hk, h1, h2, h3⟩
  · exact piece_itself vp l0 c w B hB ho hl hk (by unfold Fold.piece; rw [if_neg h1, if_neg h2, if_pos ⟨h3, h4⟩])
  · rcases h with h | h
    · exact piece_back vp l0 c w B hB ho hl (by rw [← UInt8.toNat_inj]; exact h)
    · exact piece_letter vp l0 c w B hB ho hl (c.toNat - 7) (by omega) (by omega) hL
  · exact piece_octal vp l0 c w B hB ho hl hk (by unfold Fold.piece; rw [if_neg h1, if_neg h2, if_neg h3])
end
end Go.Proofs.YtgbjcpnlllaeeaaDoor
