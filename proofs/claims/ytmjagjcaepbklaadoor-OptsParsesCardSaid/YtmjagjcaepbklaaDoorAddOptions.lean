/- Options put into a bag: the walk of (galleyref00.Bag).AddOptions. Conditions: their rows are the run's own, in blocks of their own. -/
import Derived.Test.YtmjagjcaepbklaaDoorBagGTexts
import Derived.Test.YtmjagjcaepbklaaDoorBagGParts
import Derived.Test.YtmjagjcaepbklaaDoorWideOptions
namespace Go.Proofs.YtmjagjcaepbklaaDoor
open Go.RowKit

/-- What AddOptions leaves: both rows are put by. -/
def Added2 (w : World) (base gb : Nat) (vs : Nat → Value) (es : Nat → List Ent) (x y : Ent) (w' : World) : Prop :=
  ∃ v' u', BagG w' base gb (setV (setV vs 12 v') 3 u') (addE (addE es 12 x) 3 y) ∧ Only (GF gb vs) w w'
theorem addE_other {es : Nat → List Ent} {k j : Nat} {x : Ent} (h : j ≠ k) : addE es k x j = es j := by unfold addE; rw [if_neg h]
set_option maxRecDepth 100000 in
set_option maxHeartbeats 2000000 in
theorem addOptions_G (base gb : Nat) (vs : Nat → Value) (es : Nat → List Ent) (w : World) (q e a i : Bool) (A B : Option Addr) (n c m d : Nat) (h : Hid (BagG w base gb vs es)) (hx : Hid (Fits w base gb vs es 12 (A, n, c))) (hy : Hid (Fits w base gb vs es 3 (B, m, d))) :
    Calls Tryd.prog 18 #[.pointer (some ⟨gb, 0, none⟩), .agg #[.bool q, .bool e, .bool a, .bool i, .slice A n c, .slice B m d]] w fun e' w' => e' = .returned (.tuple #[]) ∧ Added2 w base gb vs es (A, n, c) (B, m, d) w' := by
  have hal : ∀ o, Below w.heap.size w (w.alloc o) := fun o => (Below.refl _ _).alloc (Nat.le_refl _) o
  have HAL := Lib.hid hal
  have hfx : ∀ {w' : World} {k : Nat} {z : Ent}, Fits w base gb vs es k z → Below w.heap.size w w' → Fits w' base gb vs es k z := fun hz hb => ⟨by obtain ⟨L, hL⟩ := hz.own; exact ⟨L, hL.far hb⟩, hz.len, hz.dist, hz.sep⟩
  have HC : Hid (∀ W o, W = w.alloc o → Calls Tryd.prog 34 #[.pointer (some ⟨gb, 0, none⟩), .slice A n c] W fun e w' => e = .returned (.tuple #[]) ∧ Added W base gb vs es 12 (A, n, c) w') := Lib.hid fun W o hW => by
    subst hW
    exact addParts_G base gb vs es _ A n c (Lib.hid (h.out.far (hal o))) (Lib.hid (hfx hx.out (hal o)))
  clear hal
  have hobj : ∀ o, (w.alloc o).heap[w.heap.size]? = some o := fun o => heap_alloc_new w o
  have HOBJ := Lib.hid hobj
  clear hobj hfx
  go_enter Tryd.func18, Tryd.ntmps18
  go_wp2_with fail
  refine (HC.out _ _ rfl).mono ?_
  rintro e' w2 ⟨rfl, v', hG, ho, hnew⟩
  have hgf : ∀ b, GF gb vs b → b < w.heap.size := fun b hb => by
    rcases hb with rfl | ⟨j, hj, hb⟩
    · exact h.out.gb_lt
    · exact ((h.out.own j hj).block_lt hb).2
  have ho2 : Only (GF gb vs) w w2 := ((Only.of_below (HAL.out _) _).trans ho fun b hb => .inl hb)
  have hob : w2.heap[w.heap.size]? = some (.cells #[.bool q, .bool e, .bool a, .bool i, .slice A n c, .slice B m d] 25) := (ho.block _ (by simp) (fun e => by have := hgf _ e; omega)).trans (HOBJ.out _)
  obtain ⟨k0, k1, k2, k3, k4, k5⟩ := oObj_cells hob
  have hF2 : Fits w2 base gb (setV vs 12 v') (addE es 12 (A, n, c)) 3 (B, m, d) := by
    obtain ⟨L, hL⟩ := hy.out.own
    have hL2 := hL.only ho2 fun b hb e => by
      rcases e with rfl | ⟨j, hj, e⟩
      · exact hL.ne_block h.out.blk (kE_bag 3 (by omega)) hb
      · exact hy.out.sep b hb j hj e
    refine ⟨⟨L, hL2⟩, hy.out.len, fun b hb z hz => ?_, fun b hb j hj e => ?_⟩
    · rw [addE_other (by omega)] at hz
      exact hy.out.dist b hb z hz
    · exact hL2.ne_type (hG.own j hj) (kE_kS 3 (by omega) (by omega) (by omega) (by omega) j hj) hb e
  have HF2 := Lib.hid hF2
  have HG := Lib.hid hG
  have HO2 := Lib.hid ho2
  have HNEW := Lib.hid hnew
  clear hF2 hG ho2 ho hnew hgf hob
  go_wp2_with fail
  refine (addTexts_G base gb _ _ w2 B m d HG HF2).mono ?_
  rintro e' w3 ⟨rfl, u', hG3, ho3, hnew3⟩
  have HG3 := Lib.hid hG3
  have HO3 : Hid (Only (GF gb vs) w w3) := Lib.hid (HO2.out.trans ho3 fun b hb => by
    rcases hb with rfl | ⟨j, hj, hb⟩
    · exact .inl (.inl rfl)
    · by_cases e : j = 12
      · subst e
        have : setV vs 12 v' 12 = v' := by unfold setV; rw [if_pos rfl]
        rw [this] at hb
        rcases HNEW.out b hb with h1 | h1
        · exact .inl (.inr ⟨12, hj, h1⟩)
        · exact .inr (by simp at h1; omega)
      · have : setV vs 12 v' j = vs j := by unfold setV; rw [if_neg e]
        rw [this] at hb
        exact .inl (.inr ⟨j, hj, hb⟩))
  clear hG3 ho3 hnew3
  go_wp2_with fail
  go_end0
  exact ⟨rfl, v', u', HG3.out, HO3.out⟩
end Go.Proofs.YtmjagjcaepbklaaDoor
