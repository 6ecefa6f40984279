/- Bytes shown as text: the walks of quote.escape and quote.fair. Condition: room. -/
import Derived.Test.YtfmaaempcpjpkaaDoorProg
import Derived.Test.YtfmaaempcpjpkaaDoorShelf
import Derived.Test.YtfmaaempcpjpkaaDoorStBytes
import Derived.Test.YtfmaaempcpjpkaaDoorAppendStr
import Derived.Test.YtfmaaempcpjpkaaDoorQuoteUtf
import Derived.Test.YtfmaaempcpjpkaaDoorStepOwn
import Derived.WalkKit
import Derived.WalkSpells
import Derived.Deep.LoopGhost
import Derived.WalkMore
import Derived.Deep.CutBlock
import Derived.Lib.Hide
namespace Go.Proofs.YtfmaaempcpjpkaaDoor
open Go.RowKit Go.Deep

set_option maxRecDepth 100000 in
theorem and15 : ∀ n : Fin 256, bits .and .u8 ((n.val : Nat) : Int) 15 = ((n.val % 16 : Nat) : Int) := by decide
theorem hex_at : ∀ i (h : i < 16), (⟨#[48, 49, 50, 51, 52, 53, 54, 55, 56, 57, 97, 98, 99, 100, 101, 102]⟩ : ByteArray)[i]'h = Quote.hexd i := by decide
theorem grown_alloc {w w' : World} {row : Option Nat} (o : Obj) (h : (w.alloc o).grownBy w' row) : w.grownBy w' row := (World.grownBy_alloc w o row).trans h
theorem grown_alloc2 {w w' : World} {row : Option Nat} (o : Obj) (h : ((w.alloc o).drewN 1).grownBy w' row) : w.grownBy w' row := grown_alloc o ((World.grownBy_drewN _ 1 row).trans h)
set_option maxRecDepth 100000 in
set_option maxHeartbeats 4000000 in
theorem escape_any (A : Option Addr) (n c : Nat) (l : List UInt8) (b : UInt8) (B : Nat) (w : World) (ho : Hid (Own Rep.byte 5 w B nob (.slice A n c) l)) (hB : B ≤ w.heap.size) (hl : Hid (l.length ≤ 70368744177664)) :
    Calls Tryd.prog 49 #[.slice A n c, .int .u8 b.toNat] w fun e w' => ∃ A' n' c', e = .returned (.slice A' n' c') ∧ n' ≤ c' ∧ c' ≤ 9223372036854775807 ∧ Hid (Own Rep.byte 5 w' B nob (.slice A' n' c') (l ++ Quote.esc b)) ∧ Hid (w.grownBy w' (Value.slice A n c).ownBlock) := by
  have hb := b.toNat_lt
  by_cases h34 : b.toNat = 34
  · rw [show Quote.esc b = [92, 34] by unfold Quote.esc; simp [h34]]
    rw [h34]
    go_enter Tryd.func49, Tryd.ntmps49
    go_wp2_with (at_builtin; refine wpList_append_bytes _ rfl (.tmp 9) (.tmp 11) 23 rfl B 5 stBytes (.slice A n c) l rfl (ho.out.alloc _) _ _ _ _ [92, 34] rfl (SliceAt.newBytes _ _ _ [92, 34] 2 (by simp) (by simp [maxLen]) rfl) rfl (by have := hl.out; omega) (by simp; omega) ?_; intro v4 w4 hown4 hg4 hat4; obtain ⟨A4, n4, c4, rfl, hn4, hnc4, hcm4⟩ := hown4.form; have HG := Lib.hid (grown_alloc _ hg4); have HO4 := Lib.hid hown4; clear hown4 hg4 hat4 hn4)
    go_ret
    exact ⟨_, _, _, rfl, hnc4, hcm4, HO4, HG⟩
  by_cases h92 : b.toNat = 92
  · rw [show Quote.esc b = [92, 92] by unfold Quote.esc; simp [h92]]
    rw [h92]
    go_enter Tryd.func49, Tryd.ntmps49
    go_wp2_with (at_builtin; refine wpList_append_bytes _ rfl (.tmp 9) (.tmp 11) 23 rfl B 5 stBytes (.slice A n c) l rfl (ho.out.alloc _) _ _ _ _ [92, 92] rfl (SliceAt.newBytes _ _ _ [92, 92] 2 (by simp) (by simp [maxLen]) rfl) rfl (by have := hl.out; omega) (by simp; omega) ?_; intro v4 w4 hown4 hg4 hat4; obtain ⟨A4, n4, c4, rfl, hn4, hnc4, hcm4⟩ := hown4.form; have HG := Lib.hid (grown_alloc _ hg4); have HO4 := Lib.hid hown4; clear hown4 hg4 hat4 hn4)
    go_ret
    exact ⟨_, _, _, rfl, hnc4, hcm4, HO4, HG⟩
  by_cases h10 : b.toNat = 10
  · rw [show Quote.esc b = [92, 110] by unfold Quote.esc; simp [h10]]
    rw [h10]
    go_enter Tryd.func49, Tryd.ntmps49
    go_wp2_with (at_builtin; refine wpList_append_bytes _ rfl (.tmp 15) (.tmp 16) 23 rfl B 5 stBytes (.slice A n c) l rfl (ho.out.alloc _) _ _ _ _ [92, 110] rfl (SliceAt.newBytes _ _ _ [92, 110] 2 (by simp) (by simp [maxLen]) rfl) rfl (by have := hl.out; omega) (by simp; omega) ?_; intro v4 w4 hown4 hg4 hat4; obtain ⟨A4, n4, c4, rfl, hn4, hnc4, hcm4⟩ := hown4.form; have HG := Lib.hid (grown_alloc _ hg4); have HO4 := Lib.hid hown4; clear hown4 hg4 hat4 hn4)
    go_ret
    exact ⟨_, _, _, rfl, hnc4, hcm4, HO4, HG⟩
  by_cases h9 : b.toNat = 9
  · rw [show Quote.esc b = [92, 116] by unfold Quote.esc; simp [h9]]
    rw [h9]
    go_enter Tryd.func49, Tryd.ntmps49
    go_wp2_with (at_builtin; refine wpList_append_bytes _ rfl (.tmp 20) (.tmp 21) 23 rfl B 5 stBytes (.slice A n c) l rfl (ho.out.alloc _) _ _ _ _ [92, 116] rfl (SliceAt.newBytes _ _ _ [92, 116] 2 (by simp) (by simp [maxLen]) rfl) rfl (by have := hl.out; omega) (by simp; omega) ?_; intro v4 w4 hown4 hg4 hat4; obtain ⟨A4, n4, c4, rfl, hn4, hnc4, hcm4⟩ := hown4.form; have HG := Lib.hid (grown_alloc _ hg4); have HO4 := Lib.hid hown4; clear hown4 hg4 hat4 hn4)
    go_ret
    exact ⟨_, _, _, rfl, hnc4, hcm4, HO4, HG⟩
  by_cases h13 : b.toNat = 13
  · rw [show Quote.esc b = [92, 114] by unfold Quote.esc; simp [h13]]
    rw [h13]
    go_enter Tryd.func49, Tryd.ntmps49
    go_wp2_with (at_builtin; refine wpList_append_bytes _ rfl (.tmp 25) (.tmp 26) 23 rfl B 5 stBytes (.slice A n c) l rfl (ho.out.alloc _) _ _ _ _ [92, 114] rfl (SliceAt.newBytes _ _ _ [92, 114] 2 (by simp) (by simp [maxLen]) rfl) rfl (by have := hl.out; omega) (by simp; omega) ?_; intro v4 w4 hown4 hg4 hat4; obtain ⟨A4, n4, c4, rfl, hn4, hnc4, hcm4⟩ := hown4.form; have HG := Lib.hid (grown_alloc _ hg4); have HO4 := Lib.hid hown4; clear hown4 hg4 hat4 hn4)
    go_ret
    exact ⟨_, _, _, rfl, hnc4, hcm4, HO4, HG⟩
  have E : Quote.esc b = [92, 120, Quote.hexd (b.toNat / 16), Quote.hexd (b.toNat % 16)] := by unfold Quote.esc; simp [h34, h92, h10, h9, h13]
  obtain ⟨i, hi⟩ : ∃ i, i = b.toNat / 16 := ⟨_, rfl⟩
  obtain ⟨j, hj⟩ : ∃ j, j = b.toNat % 16 := ⟨_, rfl⟩
  have hs : (b.toNat : Int) / 16 = (i : Int) := by omega
  have hm : (b.toNat : Int) % 16 = (j : Int) := by omega
  have hi16 : i < 16 := by omega
  have hj16 : j < 16 := by omega
  have hi16z : (i : Int) < 16 := by omega
  have hj16z : (j : Int) < 16 := by omega
  have hand : bits .and .u8 (b.toNat : Int) 15 = (j : Int) := (and15 ⟨b.toNat, b.toNat_lt⟩).trans (by simp only [hj])
  have hxi := hex_at i hi16
  have hxj := hex_at j hj16
  rw [E, ← hi, ← hj]
  clear hi hj E
  go_enter Tryd.func49, Tryd.ntmps49
  go_upto_region 11 with fail
  go_region_law ((refine step_append_Own rfl (.tmp 28) (.tmp 35) 23 rfl Rep.byte B 5 1 stBytes nob (.slice A n c) l (by simp [Act.eval]) ((ho.out.alloc _).drewN 1) (under (w.heap.size + 1)) (some ⟨w.heap.size, 0, none⟩) 4 [92, 120, Quote.hexd i, Quote.hexd j] (by simp [Act.eval]) ((SliceAt.newBytes w _ _ [92, 120, Quote.hexd i, Quote.hexd j] 4 (by simp) (by simp [maxLen]) (by simp [bcells])).drewN 1) nob (fun _ h => h.elim) (fun _ h => h) (fun _ _ h => h) (by have := hl.out; simp <;> omega) (by have := hl.out; simp <;> omega) (by simp [World.drew] <;> omega) ?_; intro v4 w4 hown4 hg4 hat4; obtain ⟨A4, n4, c4, rfl, hn4, hnc4, hcm4⟩ := hown4.form; have HG := Lib.hid (grown_alloc2 _ hg4); have HO4 := Lib.hid hown4; clear hown4 hg4 hat4 hn4))
  all_goals go_wp2_with fail
  all_goals go_ret
  all_goals exact ⟨_, _, _, rfl, hnc4, hcm4, HO4, HG⟩
end Go.Proofs.YtfmaaempcpjpkaaDoor
