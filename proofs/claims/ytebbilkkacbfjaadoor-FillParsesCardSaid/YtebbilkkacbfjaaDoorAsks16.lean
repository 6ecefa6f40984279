/- The walk of the law FillAsks. Condition: what comes in is of a weight of at most 2^31. -/
import Derived.Test.YtebbilkkacbfjaaDoorRefPrint
import Derived.Test.YtebbilkkacbfjaaDoorEqMarks16
import Derived.Test.YtebbilkkacbfjaaDoorBagM
import Derived.Test.YtebbilkkacbfjaaDoorExpands16
namespace Go.Proofs.YtebbilkkacbfjaaDoor
open Go.RowKit
set_option maxHeartbeats 1000000 in
theorem long_no (x : Int) (w : World) (h : x ≤ 2147483647) : Calls Tryd.prog 7 #[.int .i64 x] w fun e w' => e = .returned (.bool false) ∧ Below w.heap.size w w' := by
  have h' : decide ((2147483647 : Int) < x) = false := by simp; omega
  go_enter Tryd.func7, Tryd.ntmps7
  go_wp2
  go_ret
  exact ⟨rfl, Below.refl _ _⟩
theorem print_none (A : Option Addr) (n c : Nat) (l : List Piece) (w : World) (hn : Hid (n = l.length)) (hl : SliceAt Rep.piece w (under w.heap.size) A c l) (hq : shaped l = false) :
    Calls Tryd.prog 32 #[.slice A n c] w fun e w' => e = .returned (.tuple #[.slice none 0 0, .int .i64 61]) ∧ Below w.heap.size w w' := by
  rw [hn.out]; exact print_bad A c l w hl hq
theorem wt_mem (ps : List Piece) : ∀ p ∈ ps, p.text.length ≤ wt ps := by
  induction ps with
  | nil => intro p hp; cases hp
  | cons q r ih =>
    intro p hp
    rw [wt_cons]
    rcases List.mem_cons.1 hp with rfl | hp
    · omega
    · have := ih p hp; omega
theorem Own.at1 {α : Type} {r : Rep α} {e : TypeId} {w : World} {base : Nat} {A : Option Addr} {n c : Nat} {l : List α} (h : Own r e w base nob (.slice A n c) l) : n = l.length ∧ n ≤ c ∧ c ≤ 9223372036854775807 ∧ SliceAt r w (under w.heap.size) A c l := by
  obtain ⟨A', n', c', e, hn, h1, h2, hs⟩ := h.read
  simp only [Value.slice.injEq] at e
  obtain ⟨rfl, rfl, rfl⟩ := e
  exact ⟨hn.out, h1, h2, hs.up (btw_under (Nat.le_refl _))⟩
/-- Print, the program's and the document's: one answer, whatever the world. -/
def Prints (f : FuncId) (ps : List Piece) (L : List Mark) (er : Int) : Prop :=
  ∀ (A : Option Addr) (n c : Nat) (w : World), Hid (n = ps.length) → Hid (SliceAt Rep.piece w (under w.heap.size) A c ps) →
    Calls Tryd.prog f #[.slice A n c] w fun e w' => ∃ A1 n1 c1, e = .returned (.tuple #[.slice A1 n1 c1, .int .i64 er]) ∧ n1 ≤ c1 ∧ c1 ≤ 9223372036854775807 ∧ Hid (n1 = L.length) ∧ Hid (Own Rep.mark 34 w' w.heap.size nob (.slice A1 n1 c1) L) ∧ Hid (Below w.heap.size w w')
theorem prints (ps : List Piece) (hw : Hid (wt ps ≤ 2147483648)) : ∃ L er, L.length ≤ 4294967296 ∧ (er = 0 ∨ er = 61) ∧ Prints 32 ps L er ∧ Prints 33 ps L er := by
  rcases hs : shaped ps with _ | _
  · refine ⟨[], 61, by simp, .inr rfl, fun A n c w hn hp => ?_, fun A n c w hn hp => ?_⟩
    · exact (print_none A n c ps w hn hp.out hs).mono fun e w' ⟨he, hb⟩ => ⟨none, 0, 0, he, Nat.le_refl _, by omega, Lib.hid rfl, Lib.hid (Own.nil _ _ _ _), Lib.hid hb⟩
    · exact (refPrint_bad A n c ps w hn hp hs).mono fun e w' ⟨he, hb⟩ => ⟨none, 0, 0, he, Nat.le_refl _, by omega, Lib.hid rfl, Lib.hid (Own.nil _ _ _ _), Lib.hid hb⟩
  · have hl := printed_len ps
    have hww := hw.out
    refine ⟨bare (printed ps), 0, by simp [bare]; omega, .inl rfl, fun A n c w hn hp => ?_, fun A n c w hn hp => ?_⟩
    · refine (print_any A c n ps w hn.out hp.out hs hw.out).mono fun e w' ⟨v, he, ho, hb⟩ => ?_
      obtain ⟨A1, n1, c1, rfl, h1, h2, h3⟩ := ho.form
      exact ⟨A1, n1, c1, he, h2, h3, h1, Lib.hid ho, Lib.hid hb⟩
    · refine (refPrint_any A c n ps w hn hp hs hw).mono fun e w' ⟨v, he, ho, hb⟩ => ?_
      obtain ⟨A1, n1, c1, rfl, h1, h2, h3⟩ := ho.form
      exact ⟨A1, n1, c1, he, h2, h3, h1, Lib.hid ho, Lib.hid hb⟩
theorem shaped_n (A : Option Addr) (n ca : Nat) (l : List Piece) (w : World) (hn : Hid (n = l.length)) (hp : Hid (SliceAt Rep.piece w (under w.heap.size) A ca l)) :
    Calls Tryd.prog 31 #[.slice A n ca] w fun e w' => e = .returned (.bool (shaped l)) ∧ Below w.heap.size w w' := by
  rw [hn.out]; exact shaped_any A ca l w hp.out
/-- Marks of the call's own, while a bag of marks grows. -/
theorem Own.bagM {w w' : World} {base base' gb : Nat} {v : Value} {rows : List (List Value)} {u : Value} {l : List Mark} (h : Own Rep.mark 34 w base nob u l) (hb : BagM w base' gb v rows) (ho : Only (fun b => b = gb ∨ some b = v.ownBlock) w w') : Own Rep.mark 34 w' base nob u l :=
  h.only ho fun b hq => by
    rintro (rfl | hv)
    · exact h.ne_block hb.blk (by decide) hq
    · exact h.ne_type hb.own (by decide) hq hv.symm
theorem BagM.below {w w' : World} {base gb : Nat} {v : Value} {rows : List (List Value)} (h : BagM w base gb v rows) (ho : Only (fun b => b = gb ∨ some b = v.ownBlock) w w') : Below base w w' :=
  ho.below (Nat.le_trans h.hb (Nat.le_of_lt (Array.getElem?_eq_some_iff.1 h.blk).1)) fun b hb => by
    rcases hb with rfl | hb
    · exact h.hb
    · exact (h.own.block_lt hb.symm).1
theorem drew_below (w : World) (q : Nat) : Below w.heap.size w (w.drewN q) := below_drewN (Below.refl _ _) q
set_option maxRecDepth 100000 in
set_option maxHeartbeats 8000000 in
theorem fillAsks_any (A : Option Addr) (n ca : Nat) (ps : List Piece) (w : World) (hn : Hid (n = ps.length)) (hp : Hid (SliceAt Rep.piece w (under w.heap.size) A ca ps)) (hw : Hid (wt ps ≤ 1073741824)) (hb : n ≤ 1073741824) :
    Calls Tryd.prog 5 #[.slice A n ca] w fun e w' => e = .returned (.bool true) ∧ Below w.heap.size w w' := by
  have hnc : n ≤ ca := by rw [hn.out]; exact hp.out.len
  have hcm := hp.out.max
  obtain ⟨L, er, hL, her, hP1, hP2⟩ := prints ps (Lib.hid (by have := hw.out; omega))
  have HP1 := Lib.hid hP1
  have HP2 := Lib.hid hP2
  have HL := Lib.hid hL
  have HLEN : Hid (∀ p ∈ ps, p.text.length ≤ 140737488351232) := Lib.hid fun p hp => by
    have h1 := wt_mem ps p hp
    have := hw.out
    omega
  obtain ⟨M, hM⟩ : ∃ M, M = most ps := ⟨_, rfl⟩
  obtain ⟨sh, hsh⟩ : ∃ s, s = shaped ps := ⟨_, rfl⟩
  have HM := Lib.hid hM
  have HSH := Lib.hid hsh
  clear hP1 hP2 hL hM hsh
  have hsn : (sh != sh) = false := by simp
  have hMn : (M != M) = false := by simp
  have hen : (er != er) = false := by simp
  go_enter Tryd.func5, Tryd.ntmps5
  go_wp2_with fail
  refine (works_any _).mono ?_
  rintro e w1 ⟨rfl, hb1⟩
  have HB1 := Lib.hid hb1
  clear hb1
  go_wp2_with fail
  refine (long_no _ _ (by omega)).mono ?_
  rintro e w2 ⟨rfl, hb2⟩
  have HB2 := Lib.hid (bfar HB1.out hb2)
  clear hb2 HB1
  go_wp2_with fail
  refine (widePieces_any A n ca ps w2 _ hn (Lib.hid (SliceAt.grow hp.out HB2.out)) (Lib.hid fun b hb => hb) (by omega) HLEN).mono ?_
  rintro e w3 ⟨gp, rfl, HP3, HB3⟩
  have HC3 := Lib.hid (bfar HB2.out HB3.out)
  have hp3 : SliceAt Rep.wp w3 (under w3.heap.size) (some ⟨gp, 0, none⟩) (n + 64) (wps ps) := HP3.out.up fun b hb => hb.2
  have HP : Hid (∀ W, Below w3.heap.size w3 W → SliceAt Rep.wp W (under W.heap.size) (some ⟨gp, 0, none⟩) (n + 64) (wps ps)) := Lib.hid fun W hW => SliceAt.grow hp3 hW
  have HA : Hid (∀ W, Below w3.heap.size w3 W → SliceAt Rep.piece W (under W.heap.size) A ca ps) := Lib.hid fun W hW => SliceAt.grow hp.out (bfar HC3.out hW)
  have HB33 := Lib.hid (Below.refl w3.heap.size w3)
  clear hp3 HP3 HB3 HB2
  go_wp2_with fail
  refine (fillMost_any (some ⟨gp, 0, none⟩) n (n + 64) ps w3 _ hn (Lib.hid (HP.out w3 HB33.out).pieces) (Lib.hid fun b hb => hb)).mono ?_
  rw [← HM.out]
  rintro e w4 ⟨rfl, hb4⟩
  have HC4 := Lib.hid hb4
  clear hb4
  go_wp2_with fail
  refine (shaped_n (some ⟨gp, 0, none⟩) n (n + 64) ps w4 hn (Lib.hid (HP.out w4 HC4.out).pieces)).mono ?_
  rw [← HSH.out]
  rintro e w5 ⟨rfl, hb5⟩
  have HC5 := Lib.hid (bfar HC4.out hb5)
  clear hb5 HC4
  go_wp2_with fail
  refine (HP1.out (some ⟨gp, 0, none⟩) n (n + 64) w5 hn (Lib.hid (HP.out w5 HC5.out).pieces)).mono ?_
  rintro e w6 ⟨A6, n6, c6, rfl, k61, k62, HN6, HO6, HB6⟩
  have HC6 := Lib.hid (bfar HC5.out HB6.out)
  go_wp2_with fail
  refine (HP1.out (some ⟨gp, 0, none⟩) n (n + 64) w6 hn (Lib.hid (HP.out w6 HC6.out).pieces)).mono ?_
  rintro e w7 ⟨A7, n7, c7, rfl, k71, k72, HN7, HO7, HB7⟩
  have HC7 := Lib.hid (bfar HC6.out HB7.out)
  have HD : Hid (∀ q, (Value.slice A6 n6 c6).ownBlock = some q → (Value.slice A7 n7 c7).ownBlock ≠ some q) := Lib.hid fun q h6 h7 => by
    have h1 := (HO6.out.block_lt h6).2
    have h2 := (HO7.out.block_lt h7).1
    omega
  have HO67 := Lib.hid (HO6.out.far HB7.out)
  go_wp2_with fail
  refine (HP2.out A n ca w7 hn (Lib.hid (HA.out w7 HC7.out))).mono ?_
  rintro e w8 ⟨A8, n8, c8, rfl, k81, k82, HN8, HO8, HB8⟩
  have HC8 := Lib.hid (bfar HC7.out HB8.out)
  have HO68 := Lib.hid (HO67.out.far HB8.out)
  have HO78 := Lib.hid (HO7.out.far HB8.out)
  have hz5 := HC5.out.size
  have hz6 := HC6.out.size
  have hz7 := HC7.out.size
  go_wp2_with fail
  refine (eqPieces_true (some ⟨gp, 0, none⟩) A n (n + 64) ca ps w8 hn (HP.out w8 HC8.out).pieces (HA.out w8 HC8.out)).mono ?_
  rintro e w9 ⟨rfl, hb9⟩
  have HC9 := Lib.hid (bfar HC8.out hb9)
  have HE9 := Lib.hid hb9
  clear hb9
  go_wp2_with fail
  refine (sparePieces_any gp n ps w9 _ hn (Lib.hid (HP.out w9 HC9.out)) (by omega) HLEN).mono ?_
  rintro e w10 ⟨rfl, q10, rfl⟩
  have HC10 := Lib.hid (bfar HC9.out (drew_below w9 q10))
  have HE10 := Lib.hid (bfar HE9.out (drew_below w9 q10))
  generalize hW : w9.drewN q10 = w10 at HC10 HE10 ⊢
  clear hW HC9 HE9
  go_wp2_with fail
  refine (refMost_any A n ca ps w10 _ hn (Lib.hid (HA.out w10 HC10.out))).mono ?_
  rw [← HM.out]
  rintro e w11 ⟨rfl, rfl⟩
  go_wp2_with fail
  refine (refShaped_any A n ca ps w10 _ hn (Lib.hid (HA.out w10 HC10.out)) (Lib.hid fun b hb => hb)).mono ?_
  rw [← HSH.out]
  rintro e w12 ⟨rfl, hb12⟩
  have HC12 := Lib.hid (bfar HC10.out hb12)
  have HE12 := Lib.hid (bfar HE10.out hb12)
  clear hb12 HC10 HE10
  have HQ6 := Lib.hid (HO68.out.far HE12.out)
  have HQ7 := Lib.hid (HO78.out.far HE12.out)
  have HQ8 := Lib.hid (HO8.out.far HE12.out)
  go_wp2_with fail
  refine (eqMarks16 A6 A8 n6 n8 c6 c8 L w12 _ _ HN6 HN8 (Lib.hid HQ6.out.at1.2.2.2) (Lib.hid HQ8.out.at1.2.2.2)).mono ?_
  rintro e w13 ⟨rfl, q13, rfl⟩
  have HC13 := Lib.hid (bfar HC12.out (drew_below w12 q13))
  have HR6 := Lib.hid (HQ6.out.far (drew_below w12 q13))
  have HR7 := Lib.hid (HQ7.out.far (drew_below w12 q13))
  have HR8 := Lib.hid (HQ8.out.far (drew_below w12 q13))
  generalize hW : w12.drewN q13 = w13 at HC13 HR6 HR7 HR8 ⊢
  clear hW HC12 HQ6 HQ7 HQ8 HE12 HO68 HO78
  go_wp2_with fail
  refine (eqMarks16 A7 A8 n7 n8 c7 c8 L w13 _ _ HN7 HN8 (Lib.hid HR7.out.at1.2.2.2) (Lib.hid HR8.out.at1.2.2.2)).mono ?_
  rintro e w14 ⟨rfl, q14, rfl⟩
  have HC14 := Lib.hid (bfar HC13.out (drew_below w13 q14))
  have HS6 := Lib.hid (HR6.out.far (drew_below w13 q14))
  have HS7 := Lib.hid (HR7.out.far (drew_below w13 q14))
  generalize hW : w13.drewN q14 = w14 at HC14 HS6 HS7 ⊢
  clear hW HC13 HR6 HR7 HR8
  have hz14 := HC14.out.size
  have HBW := Lib.hid (bfar HC3.out HC14.out)
  go_wp2_with fail
  have HG0 := Lib.hid (BagM.start w14 w3.heap.size hz14)
  have HT6 := Lib.hid (HS6.out.alloc (bagM (.slice none 0 0)))
  have HT7 := Lib.hid (HS7.out.alloc (bagM (.slice none 0 0)))
  have HBA := Lib.hid (HBW.out.alloc HBW.out.size (bagM (.slice none 0 0)))
  refine (addMarks_any w3.heap.size _ _ [] _ HG0.out (by simp) _ _ _).mono ?_
  rintro e w16 ⟨rfl, v1, hbg1, ho1⟩
  have HU6 := Lib.hid (HT6.out.bagM HG0.out ho1)
  have HU7 := Lib.hid (HT7.out.bagM HG0.out ho1)
  have HB16 := Lib.hid (HBA.out.trans ((HG0.out.below ho1).mono HC3.out.size))
  have HG1 := Lib.hid hbg1
  clear hbg1 ho1 HT6 HT7 HBA HG0
  go_wp2_with fail
  refine (addMarks_any w3.heap.size _ _ _ _ HG1.out (by simp) _ _ _).mono ?_
  rintro e w17 ⟨rfl, v2, hbg1, ho1⟩
  have HV6 := Lib.hid ((HU6.out.bagM HG1.out ho1).low16 (base' := w3.heap.size) hz5)
  have HV7 := Lib.hid ((HU7.out.bagM HG1.out ho1).low16 (base' := w3.heap.size) hz6)
  have HB17 := Lib.hid (HB16.out.trans ((HG1.out.below ho1).mono HC3.out.size))
  have HG2 := Lib.hid hbg1
  clear hbg1 ho1 HU6 HU7 HB16 HG1
  have hl6 := HN6.out
  have hl7 := HN7.out
  have hLL := HL.out
  go_wp2_with fail
  refine (apart_marksO w3.heap.size _ v2 [(A6, n6, c6), (A7, n7, c7)] w17 HG2.out (by simp) (by simp) (by simp only [List.mem_cons, List.not_mem_nil, or_false]; rintro x (rfl | rfl); exact ⟨_, HV6.out⟩; exact ⟨_, HV7.out⟩) (by simp only [List.mem_cons, List.not_mem_nil, or_false]; rintro x (rfl | rfl) <;> simp only <;> omega) (by simp only [List.pairwise_cons, List.mem_singleton, List.not_mem_nil, List.Pairwise.nil, and_true]; refine ⟨fun y hy => by subst hy; exact HD.out, fun _ h => h.elim⟩)).mono ?_
  rintro e w18 ⟨rfl, ho⟩
  have HB18 := Lib.hid (HB17.out.trans (ho.below (B := w.heap.size) HB17.out.size fun b hb => by
    obtain ⟨x, hx, hb⟩ := hb
    have hz3 := HC3.out.size
    simp only [List.mem_cons, List.not_mem_nil, or_false] at hx
    rcases hx with rfl | rfl
    · have := (HV6.out.block_lt hb).1; omega
    · have := (HV7.out.block_lt hb).1; omega))
  clear ho
  go_wp2_with fail
  go_ret
  exact ⟨rfl, HB18.out⟩
end Go.Proofs.YtebbilkkacbfjaaDoor
