/- A bag of pieces and their texts: the look at shared memory (printed by gen/bagp3.py). Conditions: pieces of the run's own; room. -/
import Derived.Test.YtebbilkkacbfjaaDoorBagP2
namespace Go.Proofs.YtebbilkkacbfjaaDoor
open Go.RowKit

set_option maxHeartbeats 1000000 in
theorem apart_P (base gb B : Nat) (v u : Value) (es ps : List Ent) (w : World) (h : BagP w base gb v u (es.map fun y => [Ent.v y]) (ps.map fun y => [Ent.v y])) (hT : TX w base B es) (hes : es.length ≤ 65536) (h0 : 0 < ps.length) (hN : ps.length ≤ 65536)
    (hown : ∀ x ∈ ps, ∃ L : List (List Value), Own (Rep.raw 2) 81 w base nob (Ent.v x) L) (hk : ∀ x ∈ ps, x.2.1 ≤ 1099511627776) (hd : ps.Pairwise fun a b => ∀ q, (Ent.v a).ownBlock = some q → (Ent.v b).ownBlock ≠ some q) :
    Calls Tryd.prog 16 #[.pointer (some ⟨gb, 0, none⟩)] w fun e w' => e = .returned (.bool true) ∧ Below base w w' := by
  have hgl := (Array.getElem?_eq_some_iff.1 h.blk).1
  have hbs : base ≤ w.heap.size := Nat.le_trans h.hb (Nat.le_of_lt hgl)
  obtain ⟨FB, hFB⟩ : ∃ F, F = RowB es.length (fun m => .slice (entA es m) (entN es m) (entC es m)) := ⟨_, rfl⟩
  obtain ⟨FP, hFP⟩ : ∃ F, F = RowB ps.length (fun m => .slice (entA ps m) (entN ps m) (entC ps m)) := ⟨_, rfl⟩
  have hb1 : ∀ b, FB b → ∃ x ∈ es, (Ent.v x).ownBlock = some b := fun b hb => by
    rw [hFB] at hb
    obtain ⟨m, hm, hb⟩ := hb
    exact ⟨es[m], List.getElem_mem hm, by simp only [ent_v es hm] at hb; exact hb⟩
  have hp1 : ∀ b, FP b → ∃ x ∈ ps, (Ent.v x).ownBlock = some b := fun b hb => by
    rw [hFP] at hb
    obtain ⟨m, hm, hb⟩ := hb
    exact ⟨ps[m], List.getElem_mem hm, by simp only [ent_v ps hm] at hb; exact hb⟩
  have hb2 : ∀ b, FB b → ¬ BagF gb v u b := fun b hb => by
    obtain ⟨x, hx, hb⟩ := hb1 b hb
    obtain ⟨l, hl⟩ := hT.own x hx
    exact h.notB hl hb
  have hp2 : ∀ b, FP b → ¬ BagF gb v u b := fun b hb => by
    obtain ⟨x, hx, hb⟩ := hp1 b hb
    obtain ⟨l, hl⟩ := hown x hx
    exact h.notP hl hb
  have hbb : ∀ b, FB b → base ≤ b := fun b hb => by
    obtain ⟨x, hx, hb⟩ := hb1 b hb
    obtain ⟨l, hl⟩ := hT.own x hx
    exact (hl.block_lt hb).1
  have hpb : ∀ b, FP b → base ≤ b := fun b hb => by
    obtain ⟨x, hx, hb⟩ := hp1 b hb
    obtain ⟨l, hl⟩ := hown x hx
    exact (hl.block_lt hb).1
  have hnil : ∀ W, Only (fun b => FB b ∨ FP b) w W → W.heap[gb]? = some (bagP v u) := fun W ho => (ho.block gb hgl fun e => e.elim (fun e => hb2 _ e (.inl rfl)) (fun e => hp2 _ e (.inl rfl))).trans h.blk
  have hnil1 : ∀ W, Only FB w W → W.heap[gb]? = some (bagP v u) := fun W ho => hnil W (ho.mono fun _ e => .inl e)
  have hB : ∀ W, W = w → Calls Tryd.prog 41 #[.pointer (some ⟨gb, 0, none⟩)] W fun e w' => e = .returned (.bool true) ∧ Only FB w w' := by
    rintro W rfl
    obtain ⟨xs, hx, hrest⟩ := id h.own
    rcases hx.2 with ⟨rfl, h00⟩ | ⟨gB, c, cur, rfl, hbB, hgB, hle, hmax, -⟩
    · exact (apartBytes_nil gb W (cell_of_row W gb 0 _ _ (0, 0) h.blk)).mono fun e w' hh => ⟨hh.1, hh.2 ▸ Only.refl _ _⟩
    · have hR := rows0_of hT.own hT.dist
      have e1 : (es.map fun y => [Ent.v y]).length = es.length := by simp
      rw [e1] at hle
      have hcell := cell_of_row W gb 0 _ _ (0, 0) h.blk
      simp only [e1] at hcell
      have hrow : ∀ m, m < es.length → W.cell? ⟨gB, m, none⟩ = some (.slice (entA es m) (entN es m) (entC es m)) := fun m hm => by
        obtain ⟨g', c', he, -, -, hq⟩ := h.own.cell1 (i := m) (by simpa using hm) (x := Ent.v es[m]) (by simp [hm])
        simp only [Value.slice.injEq, Option.some.injEq, Addr.mk.injEq] at he
        obtain ⟨⟨rfl, -⟩, -, -⟩ := he
        rw [ent_v es hm]
        exact hq
      refine (apartBytes_any gb gB c es.length (entA es) (entN es) (entC es) W base hcell hes hle hmax hrow hR hbs (by rw [← hFB]; exact fun e => hb2 _ e (.inl rfl)) (by rw [← hFB]; exact fun e => hb2 _ e (.inr (.inl rfl))) fun m hm => ?_).mono fun e w' hh => ⟨hh.1, by rw [hFB]; exact hh.2⟩
      have := hT.len es[m] (List.getElem_mem hm)
      simpa [entN, List.getD_eq_getElem?_getD, hm] using this
  have hP : ∀ W, Only FB w W → Calls Tryd.prog 57 #[.pointer (some ⟨gb, 0, none⟩)] W fun e w' => e = .returned (.bool true) ∧ Only (fun b => FB b ∨ FP b) w w' := by
    intro W ho
    have hz := ho.size
    obtain ⟨xs, hx, hrest⟩ := id h.ownP
    rcases hx.2 with ⟨rfl, h00⟩ | ⟨gB, c, cur, rfl, hbB, hgB, hle, hmax, -⟩
    · rw [List.length_map] at h00; omega
    · have hown' : ∀ x ∈ ps, ∃ L : List (List Value), Own (Rep.raw 2) 81 W base nob (Ent.v x) L := fun x hx => by
        obtain ⟨L, hL⟩ := hown x hx
        refine ⟨L, hL.only ho fun b hb e => ?_⟩
        obtain ⟨y, hy, hq⟩ := hb1 b e
        obtain ⟨l, hl⟩ := hT.own y hy
        exact hL.ne_type hl (by decide) hb hq
      have hR := rows0_of hown' hd
      have hPo : Own Rep.val 26 W base nob (.slice (some ⟨gB, 0, none⟩) (ps.map fun y => [Ent.v y]).length c) (ps.map fun y => [Ent.v y]) := h.ownP.only ho fun b hb e => hb2 _ e (.inr (.inr hb.symm))
      have e1 : (ps.map fun y => [Ent.v y]).length = ps.length := by simp
      have hcell := cell_of_row W gb 16 _ _ (0, 0) (hnil1 W ho)
      rw [e1] at hle
      simp only [e1] at hcell hPo
      have hrow : ∀ m, m < ps.length → W.cell? ⟨gB, m, none⟩ = some (.slice (entA ps m) (entN ps m) (entC ps m)) := fun m hm => by
        obtain ⟨g', c', he, -, -, hq⟩ := hPo.cell1 (i := m) (by simpa using hm) (x := Ent.v ps[m]) (by simp [hm])
        simp only [Value.slice.injEq, Option.some.injEq, Addr.mk.injEq] at he
        obtain ⟨⟨rfl, -⟩, -, -⟩ := he
        rw [ent_v ps hm]
        exact hq
      refine (apartPieces_any gb gB c ps.length (entA ps) (entN ps) (entC ps) W base hcell hN hle hmax hrow hR (by omega) (by rw [← hFP]; exact fun e => hp2 _ e (.inl rfl)) (by rw [← hFP]; exact fun e => hp2 _ e (.inr (.inr rfl))) fun m hm => ?_).mono fun e w' hh => ⟨hh.1, ?_⟩
      · have := hk ps[m] (List.getElem_mem hm)
        simpa [entN, List.getD_eq_getElem?_getD, hm] using this
      · have h2 := hh.2
        rw [← hFP] at h2
        exact (ho.mono fun _ e => .inl e).trans h2 fun b hb => .inl (.inr hb)
  refine (apart_all gb (fun i W => if i = 0 then W = w else if i ≤ 16 then Only FB w W else Only (fun b => FB b ∨ FP b) w W) w rfl
    (Lib.hid fun W (ho : W = w) => hB W ho)
    (Lib.hid fun W ho => (apartInts_nil gb W (cell_of_row W gb 1 _ _ (0, 0) (hnil1 W ho))).mono fun _ _ h => ⟨h.1, h.2 ▸ ho⟩)
    (Lib.hid fun W ho => (apartBools_nil gb W (cell_of_row W gb 2 _ _ (0, 0) (hnil1 W ho))).mono fun _ _ h => ⟨h.1, h.2 ▸ ho⟩)
    (Lib.hid fun W ho => (apartTexts_nil gb W (cell_of_row W gb 3 _ _ (0, 0) (hnil1 W ho))).mono fun _ _ h => ⟨h.1, h.2 ▸ ho⟩)
    (Lib.hid fun W ho => (apartMarks_nil gb W (cell_of_row W gb 4 _ _ (0, 0) (hnil1 W ho))).mono fun _ _ h => ⟨h.1, h.2 ▸ ho⟩)
    (Lib.hid fun W ho => (apartSpans_nil gb W (cell_of_row W gb 5 _ _ (0, 0) (hnil1 W ho))).mono fun _ _ h => ⟨h.1, h.2 ▸ ho⟩)
    (Lib.hid fun W ho => (apartRuns_nil gb W (cell_of_row W gb 6 _ _ (0, 0) (hnil1 W ho))).mono fun _ _ h => ⟨h.1, h.2 ▸ ho⟩)
    (Lib.hid fun W ho => (apartClasses_nil gb W (cell_of_row W gb 7 _ _ (0, 0) (hnil1 W ho))).mono fun _ _ h => ⟨h.1, h.2 ▸ ho⟩)
    (Lib.hid fun W ho => (apartNodes_nil gb W (cell_of_row W gb 8 _ _ (0, 0) (hnil1 W ho))).mono fun _ _ h => ⟨h.1, h.2 ▸ ho⟩)
    (Lib.hid fun W ho => (apartInstrs_nil gb W (cell_of_row W gb 9 _ _ (0, 0) (hnil1 W ho))).mono fun _ _ h => ⟨h.1, h.2 ▸ ho⟩)
    (Lib.hid fun W ho => (apartFaults_nil gb W (cell_of_row W gb 10 _ _ (0, 0) (hnil1 W ho))).mono fun _ _ h => ⟨h.1, h.2 ▸ ho⟩)
    (Lib.hid fun W ho => (apartNotes_nil gb W (cell_of_row W gb 11 _ _ (0, 0) (hnil1 W ho))).mono fun _ _ h => ⟨h.1, h.2 ▸ ho⟩)
    (Lib.hid fun W ho => (apartParts_nil gb W (cell_of_row W gb 12 _ _ (0, 0) (hnil1 W ho))).mono fun _ _ h => ⟨h.1, h.2 ▸ ho⟩)
    (Lib.hid fun W ho => (apartRows_nil gb W (cell_of_row W gb 13 _ _ (0, 0) (hnil1 W ho))).mono fun _ _ h => ⟨h.1, h.2 ▸ ho⟩)
    (Lib.hid fun W ho => (apartIntss_nil gb W (cell_of_row W gb 14 _ _ (0, 0) (hnil1 W ho))).mono fun _ _ h => ⟨h.1, h.2 ▸ ho⟩)
    (Lib.hid fun W ho => (apartSpanss_nil gb W (cell_of_row W gb 15 _ _ (0, 0) (hnil1 W ho))).mono fun _ _ h => ⟨h.1, h.2 ▸ ho⟩)
    (Lib.hid fun W ho => hP W ho)
    (Lib.hid fun W ho => (apartFiles_nil gb W (cell_of_row W gb 17 _ _ (0, 0) (hnil W ho))).mono fun _ _ h => ⟨h.1, h.2 ▸ ho⟩)
    (Lib.hid fun W ho => (apartCmds_nil gb W (cell_of_row W gb 18 _ _ (0, 0) (hnil W ho))).mono fun _ _ h => ⟨h.1, h.2 ▸ ho⟩)
    ).mono ?_
  rintro e w' ⟨rfl, ho⟩
  have ho : Only (fun b => FB b ∨ FP b) w w' := ho
  exact ⟨rfl, ho.below hbs fun b hb => hb.elim (hbb b) (hpb b)⟩
end Go.Proofs.YtebbilkkacbfjaaDoor
