/- A row of the kind Texts put into a bag: the walk of (galleyref00.Bag).AddTexts (printed by gen/bagg.py). Conditions: the row is the run's own, in a block of its own. -/
import Derived.Test.YtmjagjcaepbklaaDoorBagG
namespace Go.Proofs.YtmjagjcaepbklaaDoor
open Go.RowKit

theorem stRowsG3 : SliceType Tryd.prog 46 22 1 24 := SliceType.mk' (z := .slice none 0 0) Tryd.underlying46 (by kernel_rfl) rfl (by omega)
set_option maxRecDepth 100000 in
set_option maxHeartbeats 4000000 in
theorem addTexts_G (base gb : Nat) (vs : Nat → Value) (es : Nat → List Ent) (w : World) (A : Option Addr) (n c : Nat) (h : Hid (BagG w base gb vs es)) (hx : Hid (Fits w base gb vs es 3 (A, n, c))) :
    Calls Tryd.prog 23 #[.pointer (some ⟨gb, 0, none⟩), .slice A n c] w fun e w' => e = .returned (.tuple #[]) ∧ Added w base gb vs es 3 (A, n, c) w' := by
  have hc0 : w.cell? ⟨gb, 3, none⟩ = some (vs 3) := bagG_cell h.out.blk (by omega)
  have hsz := h.out.gb_lt
  have hb0 := h.out.hb
  have HOWN0 := Lib.hid (h.out.own 3 (by omega))
  have HNE := Lib.hid (h.out.own_ne (k := 3) (by omega))
  obtain ⟨v0, hv0⟩ : ∃ v, v = vs 3 := ⟨_, rfl⟩
  rw [← hv0] at hc0 HOWN0 HNE
  have HV0 := Lib.hid hv0
  clear hv0
  obtain ⟨A1, n1, c1, rfl, hn1, hnc1, hcm1⟩ := HOWN0.out.form
  have hn1' : n1 = (es 3).length := by rw [hn1.out]; simp
  have HN1 := Lib.hid hn1'
  clear hn1 hn1'
  rcases Nat.lt_or_ge n1 400 with hlt | hge
  · go_enter Tryd.func23, Tryd.ntmps23
    go_wp2_with (at_builtin; refine wpList_append_Own _ rfl (.tmp 14) (.tmp 16) 46 rfl Rep.val base 22 24 stRowsG3 nob (.slice A1 n1 c1) ((es 3).map fun y => [Ent.v y]) rfl (HOWN0.out.alloc _) _ _ _ [[.slice A n c]] rfl (SliceAt.newOne Rep.val _ _ _ _ _ ⟨rfl, rfl, by simp [Value.oneCell']⟩ (by simp)) nob (fun _ h => h.elim) (fun _ h => h) (fun _ _ h => h) (by have := HN1.out; simp <;> omega) (by have := HN1.out; simp <;> omega) (by simp <;> omega) ?_; intro v3 w3 hown3 hg3 hat3; obtain ⟨A3, n3, c3, rfl, -, -, -⟩ := hown3.form; have hblk3 := (hg3.block gb (by simp <;> omega) (fun e => HNE.out e.symm)).trans ((Below.heap_alloc w _ gb hsz).trans h.out.blk); have hc3 : w3.cell? ⟨gb, 3, none⟩ = some (.slice A1 n1 c1) := (by rw [HV0.out]; exact bagG_cell hblk3 (by omega)); have hf3 : w3.frozen? ⟨gb, 3, none⟩ = false := (by simp [World.frozen?, hblk3]); have HOWN3 := Lib.hid hown3; have HG3 := Lib.hid hg3; have HAT3 := Lib.hid hat3; have HBLK3 := Lib.hid hblk3; clear hown3 hg3 hat3 hblk3)
    go_end0
    refine ⟨rfl, ?_⟩
    have hv1 := HV0.out
    have hg3 := HG3.out
    have hat3 := HAT3.out
    rw [hv1] at hg3 hat3
    refine h.out.added (k := 3) (by omega) (by have := HN1.out; omega) hx.out HOWN3.out hg3 hat3 ?_
    simp [World.setCell, Array.getElem?_modify, HBLK3.out, setV]
  · go_enter Tryd.func23, Tryd.ntmps23
    go_wp2_with fail
    go_end0
    exact ⟨rfl, h.out.full (by omega) (by have := HN1.out; omega) _⟩
end Go.Proofs.YtmjagjcaepbklaaDoor
