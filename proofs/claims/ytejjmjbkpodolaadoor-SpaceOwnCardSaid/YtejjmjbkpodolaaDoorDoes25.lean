/- The walk of chapter 25's does: one call at a space of the program and one of the document. Condition: room. -/
import Derived.Test.YtejjmjbkpodolaaDoorSides
import Derived.Test.YtejjmjbkpodolaaDoorWideBytes
import Derived.Test.YtejjmjbkpodolaaDoorEqBytes
import Derived.Deep.CutBlock
namespace Go.Proofs.YtejjmjbkpodolaaDoor
open Go.RowKit Go.ChangeShapes Go.WideShapes Go.Deep

theorem eqB' (A B : Option Addr) (n k c d : Nat) (xs ys : List UInt8) (r : Bool) (w : World) (S S' : Blocks) (hn : Hid (n = xs.length)) (hk : Hid (k = ys.length)) (hr : Hid (decide (xs = ys) = r)) (hx : Hid (SliceAt Rep.byte w S A c xs)) (hy : Hid (SliceAt Rep.byte w S' B d ys)) :
    Calls Tryd.prog 13 #[.slice A n c, .slice B k d] w fun e w' => e = .returned (.bool r) ∧ Below w.heap.size w w' := by
  have h := eqBytes A B c d xs ys w S S' hx.out hy.out
  rw [← hn.out, ← hk.out, hr.out] at h
  refine h.mono ?_
  rintro e w' ⟨rfl, q, rfl⟩
  exact ⟨rfl, below_drewN w q⟩
/-- Both sides, and what has turned since. -/
structure Both (U : Blocks) (v u : Value) (w0 : World) (st : St) (w : World) : Prop where
  p : SideP U w v st
  r : SideR U w u st
  o : Only (fun b => ptrB v b ∨ ptrB u b) w0 w
section
variable {U : Blocks} {v u : Value} {w0 w w1 w' : World} {st st' : St}
theorem Both.far (h : Both U v u w0 st w) (hb : Below w.heap.size w w') : Both U v u w0 st w' := ⟨h.p.far hb, h.r.far hb, h.o.trans (F1 := nob) (Only.of_below hb _) fun _ h => h.elim⟩
theorem Both.turn (h : Both U v u w0 st w) (hvu : ∀ b, ptrB v b → ¬ ptrB u b) (ho1 : Only (ptrB v) w w1) (hp : SideP U w1 v st') (ho2 : Only (ptrB u) w1 w') (hr : SideR U w' u st') : Both U v u w0 st' w' :=
  ⟨hp.only ho2 (fun b hb => ⟨fun h => hvu b h hb, .inl (hr.ptr b hb)⟩), hr, (h.o.trans ho1 fun x hx => .inl (.inl hx)).trans ho2 fun x hx => .inl (.inr hx)⟩
theorem Both.side (h : Both U v u w0 st w) (hvu : ∀ b, ptrB v b → ¬ ptrB u b) (ho1 : Only (ptrB v) w w1) : SideR U w1 u st :=
  h.r.only ho1 fun b hb => ⟨hvu b hb, .inl (h.p.ptr b hb)⟩
theorem Both.half (h : Both U v u w0 st w) (ho1 : Only (ptrB v) w w1) : Only (fun b => ptrB v b ∨ ptrB u b) w0 w1 := h.o.trans ho1 fun x hx => .inl (.inl hx)
end
set_option maxRecDepth 100000 in
set_option maxHeartbeats 4000000 in
theorem does_any (U : Blocks) (v u : Value) (st : St) (kind on : Int) (x : UInt8) (A : Option Addr) (n c : Nat) (b : List UInt8) (S2 : Blocks) (w : World) (hv : Hid (SideP U w v st)) (hu : Hid (SideR U w u st)) (hvu : Hid (∀ b, ptrB v b → ¬ ptrB u b)) (hb : Hid (SliceAt Rep.byte w S2 A c b))
    (hS2 : Hid (∀ x, S2 x → x < w.heap.size ∧ ¬ ptrB v x ∧ ¬ ptrB u x)) (hn : Hid (n = b.length)) (hbig : n ≤ 67108864) (hU : Hid (∀ b, U b → b < w.heap.size)) :
    Calls Tryd.prog 8 #[v, u, .agg #[.int .i64 kind, .int .i64 on, .int .u8 x.toNat, .slice A n c]] w fun e w' => e = .returned (.bool true) ∧ ∃ st', Hid (Both U v u w st' w') := by
  have hnc : n ≤ c := by rw [hn.out]; exact hb.out.len
  have hcm := hb.out.max
  go_enter Tryd.func8, Tryd.ntmps8
  obtain ⟨W0, hW0⟩ : ∃ W0, W0 = w.alloc (.cells #[.int .i64 kind, .int .i64 on, .int .u8 x.toNat, .slice A n c] 57) := ⟨_, rfl⟩
  have hb0 : Below w.heap.size w W0 := by rw [hW0]; exact (Below.refl _ _).alloc (Nat.le_refl _) _
  have hsz : w.heap.size < W0.heap.size := by rw [hW0]; simp
  have hh : W0.heap[w.heap.size]? = some (.cells #[.int .i64 kind, .int .i64 on, .int .u8 x.toNat, .slice A n c] 57) := by rw [hW0]; exact heap_alloc_new _ _
  have hnp : ¬ (ptrB v w.heap.size ∨ ptrB u w.heap.size) := by
    rintro (h | h)
    · exact Nat.lt_irrefl _ (hU.out _ (hv.out.ptr _ h))
    · exact Nat.lt_irrefl _ (hU.out _ (hu.out.ptr _ h))
  have hsz0 := hb0.size
  have HC : Hid (∀ W, Only (fun b => ptrB v b ∨ ptrB u b) W0 W → W.cell? ⟨w.heap.size, 0, none⟩ = some (.int .i64 kind) ∧ W.cell? ⟨w.heap.size, 2, none⟩ = some (.int .u8 x.toNat) ∧ W.cell? ⟨w.heap.size, 3, none⟩ = some (.slice A n c)) := Lib.hid fun W hW => by
    have h1 := (hW.block _ hsz hnp).trans hh
    exact ⟨cell_of_row _ _ 0 _ _ (0, 0) h1, cell_of_row _ _ 2 _ _ (0, 0) h1, cell_of_row _ _ 3 _ _ (0, 0) h1⟩
  have HSL : Hid (∀ W, Only (fun b => ptrB v b ∨ ptrB u b) W0 W → SliceAt Rep.byte W S2 A c b) := Lib.hid fun W hW => (hb.out.keep (fun _ h => h) (Same.of_below hb0 fun x hx => (hS2.out x hx).1)).keep (fun _ h => h) (hW.same fun x hx => ⟨Nat.lt_of_lt_of_le (hS2.out x hx).1 hsz0, by rintro (h | h); exact (hS2.out x hx).2.1 h; exact (hS2.out x hx).2.2 h⟩)
  have HB0 : Hid (Both U v u W0 st W0) := Lib.hid ⟨hv.out.far hb0, hu.out.far hb0, Only.refl _ _⟩
  have HU : Hid (∀ b, U b → b < W0.heap.size) := Lib.hid fun b hb => Nat.lt_of_lt_of_le (hU.out b hb) hsz0
  have HW : Hid (Below w.heap.size w W0) := Lib.hid hb0
  have HS2 : Hid (∀ x, S2 x → x < W0.heap.size) := Lib.hid fun x hx => Nat.lt_of_lt_of_le (hS2.out x hx).1 hsz0
  obtain ⟨c0, c2, c3⟩ := HC.out W0 (Only.refl _ _)
  have HW0 := Lib.hid hW0
  clear hb0 hsz hh hnp hW0 hsz0 hS2 hU hb
  go_wp2_with fail
  rw [← HW0.out]
  clear HW0
  refine (wideBytes_any A n c b W0 S2 hn.out (HSL.out _ (Only.refl _ _)) HS2.out (by omega)).mono ?_
  rintro e w1 ⟨g, rfl, hown, hbw⟩
  have HI : Hid (∀ W, Only (fun b => ptrB v b ∨ ptrB u b) w1 W → Own Rep.byte 5 W W0.heap.size nob (.slice (some ⟨g, 0, none⟩) (n + 64) (n + 64)) (b ++ marksW n)) := Lib.hid fun W hW => hown.only hW fun x hx h => by
    have h1 := (hown.block_lt hx).1
    rcases h with h | h
    · have := HU.out x (hv.out.ptr _ h); omega
    · have := HU.out x (hu.out.ptr _ h); omega
  have HIN : Hid (∀ W, Only (fun b => ptrB v b ∨ ptrB u b) w1 W → SliceAt Rep.byte W (btw W0.heap.size W.heap.size) (some ⟨g, 0, none⟩) (n + 64) b) := Lib.hid fun W hW => by
    obtain ⟨A', n', c', e, hn', h1, h2, hs⟩ := (HI.out W hW).read
    simp only [Value.slice.injEq] at e
    obtain ⟨rfl, rfl, rfl⟩ := e
    have h3 := hs.cutTo (j := n) (by have := hn.out; simp; omega)
    rw [show (b ++ marksW n).take n = b by rw [hn.out, List.take_left]] at h3
    exact h3
  have hg1 : W0.heap.size ≤ g := (hown.block_lt rfl).1
  have HV : Hid (∀ b, ptrB v b → U b) := Lib.hid hv.out.ptr
  have HUU : Hid (∀ b, ptrB u b → U b) := Lib.hid hu.out.ptr
  have HB1 : Hid (Both (fun b => U b ∨ b = g) v u W0 st w1) := Lib.hid (Both.far ⟨HB0.out.p.turn (fun b hb => hb.imp id fun h => Nat.le_trans hg1 (Nat.le_of_eq (Eq.symm h))) fun b hb => .inl (HV.out b hb), HB0.out.r.turn (fun b hb => hb.imp id fun h => Nat.le_trans hg1 (Nat.le_of_eq (Eq.symm h))) fun b hb => .inl (HUU.out b hb), HB0.out.o⟩ hbw)
  have HBW := Lib.hid hbw
  have hsz1 := hbw.size
  have HU1 : Hid (∀ b, U b ∨ b = g → b < w1.heap.size) := Lib.hid fun b hb => hb.elim (fun hb => Nat.lt_of_lt_of_le (HU.out b hb) hsz1) fun h => Nat.lt_of_le_of_lt (Nat.le_of_eq h) (hown.block_lt rfl).2
  obtain ⟨c0, c2, c3⟩ := HC.out w1 HB1.out.o
  clear hown hbw HB0
  go_upto_block 0 with fail
  go_cut [8] from 18 (fun v8 wc => v8 = .bool true ∧ ∃ st', Hid (Both (fun b => U b ∨ b = g) v u w1 st' wc))
  case first =>
    have HV1 := Lib.hid HB1.out.p
    have HIS := Lib.hid (HIN.out w1 (Only.refl _ _))
    rcases Classical.em (kind = 1) with rfl | h1
    · go_wp2_with fail
      refine (sput _ v st w1 (some ⟨g, 0, none⟩) n (n + 64) b _ HV1 HU1 HIS hn (by omega)).mono ?_
      rintro e w2 ⟨q, rfl, HQ, HV2, HO2⟩
      have HH := Lib.hid (HB1.out.half HO2.out)
      obtain ⟨c0, c2, c3⟩ := HC.out w2 HH.out
      have HR2 := Lib.hid (HB1.out.side hvu.out HO2.out)
      have hu2 : Hid (∀ b, U b ∨ b = g → b < w2.heap.size) := Lib.hid fun b hb => Nat.lt_of_lt_of_le (HU1.out b hb) HO2.out.size
      have hs2 := Lib.hid (HSL.out w2 HH.out)
      clear HIS
      go_wp2_with fail
      refine (tput _ u st w2 A n c b S2 HR2 hu2 hs2 hn (by omega)).mono ?_
      rintro e w3 ⟨q', rfl, HQ', HR3, HO3⟩
      obtain rfl : q' = q := HQ'.out.trans HQ.out.symm
      go_wp2_with fail
      go_meet
      case rel => exact ⟨rfl, _, Lib.hid (Both.turn (w0 := w1) ⟨HB1.out.p, HB1.out.r, Only.refl _ _⟩ hvu.out HO2.out HV2.out HO3.out HR3.out)⟩
    rcases Classical.em (kind = 2) with rfl | h2
    · go_wp2_with fail
      refine (sjoin _ v st w1 (some ⟨g, 0, none⟩) n (n + 64) b _ HV1 HU1 HIS (Lib.hid fun x hx => hx.2) hn (by omega)).mono ?_
      rintro e w2 ⟨q, rfl, HQ, HV2, HO2⟩
      have HH := Lib.hid (HB1.out.half HO2.out)
      obtain ⟨c0, c2, c3⟩ := HC.out w2 HH.out
      have HR2 := Lib.hid (HB1.out.side hvu.out HO2.out)
      have hu2 : Hid (∀ b, U b ∨ b = g → b < w2.heap.size) := Lib.hid fun b hb => Nat.lt_of_lt_of_le (HU1.out b hb) HO2.out.size
      have hs2 := Lib.hid (HSL.out w2 HH.out)
      have hs3 : Hid (∀ x, S2 x → x < w2.heap.size) := Lib.hid fun x hx => Nat.lt_of_lt_of_le (HS2.out x hx) HH.out.size
      clear HIS
      go_wp2_with fail
      refine (tjoin _ u st w2 A n c b S2 HR2 hu2 hs2 hs3 hn (by omega)).mono ?_
      rintro e w3 ⟨q', rfl, HQ', HR3, HO3⟩
      obtain rfl : q' = q := HQ'.out.trans HQ.out.symm
      go_wp2_with fail
      go_meet
      case rel => exact ⟨rfl, _, Lib.hid (Both.turn (w0 := w1) ⟨HB1.out.p, HB1.out.r, Only.refl _ _⟩ hvu.out HO2.out HV2.out HO3.out HR3.out)⟩
    rcases Classical.em (kind = 3) with rfl | h3
    · go_wp2_with fail
      refine (sdo _ v st w1 x HV1 HU1).mono ?_
      rintro e w2 ⟨q, rfl, HQ, HV2, HO2⟩
      have HH := Lib.hid (HB1.out.half HO2.out)
      obtain ⟨c0, c2, c3⟩ := HC.out w2 HH.out
      have HR2 := Lib.hid (HB1.out.side hvu.out HO2.out)
      have hu2 : Hid (∀ b, U b ∨ b = g → b < w2.heap.size) := Lib.hid fun b hb => Nat.lt_of_lt_of_le (HU1.out b hb) HO2.out.size
      clear HIS
      go_wp2_with fail
      refine (tdo _ u st w2 x HR2 hu2).mono ?_
      rintro e w3 ⟨q', rfl, HQ', HR3, HO3⟩
      obtain rfl : q' = q := HQ'.out.trans HQ.out.symm
      go_wp2_with fail
      go_meet
      case rel => exact ⟨rfl, _, Lib.hid (Both.turn (w0 := w1) ⟨HB1.out.p, HB1.out.r, Only.refl _ _⟩ hvu.out HO2.out HV2.out HO3.out HR3.out)⟩
    rcases Classical.em (kind = 4) with rfl | h4
    · obtain ⟨q, hq⟩ : ∃ q, q = (cutS st).1 := ⟨_, rfl⟩
      go_wp2_with fail
      refine (scut _ v st w1 HV1 HU1).mono ?_
      rintro e w2 ⟨rfl, HV2, HO2⟩
      have HH := Lib.hid (HB1.out.half HO2.out)
      obtain ⟨c0, c2, c3⟩ := HC.out w2 HH.out
      have HR2 := Lib.hid (HB1.out.side hvu.out HO2.out)
      have hu2 : Hid (∀ b, U b ∨ b = g → b < w2.heap.size) := Lib.hid fun b hb => Nat.lt_of_lt_of_le (HU1.out b hb) HO2.out.size
      have ht := tcut _ u st w2 HR2 hu2
      rw [← hq] at ht ⊢
      have HT := Lib.hid ht
      clear HIS ht hq
      go_wp2_with fail
      refine HT.out.mono ?_
      rintro e w3 ⟨rfl, HR3, HO3⟩
      go_wp2_with fail
      go_meet
      case rel => exact ⟨by simp, _, Lib.hid (Both.turn (w0 := w1) ⟨HB1.out.p, HB1.out.r, Only.refl _ _⟩ hvu.out HO2.out HV2.out HO3.out HR3.out)⟩
    rcases Classical.em (kind = 5) with rfl | h5
    · obtain ⟨q, hq⟩ : ∃ q, q = hasS st := ⟨_, rfl⟩
      obtain ⟨l, hl⟩ : ∃ l, l = firstS st := ⟨_, rfl⟩
      have ht := fun W h => tfirst (fun b => U b ∨ b = g) u st W h
      have hs := sfirst (fun b => U b ∨ b = g) v st w1 HV1
      rw [← hq, ← hl] at hs
      simp only [← hq, ← hl] at ht
      have HT := Lib.hid ht
      have HSS := Lib.hid hs
      clear HIS ht hq hs hl
      go_wp2_with fail
      refine HSS.out.mono ?_
      rintro e w2 ⟨A2, n2, d2, rfl, k1, k2, HN2, HO2, HB2⟩
      have HH := Lib.hid (HB1.out.far HB2.out)
      have HR2 := Lib.hid HH.out.r
      obtain ⟨c0, c2, c3⟩ := HC.out w2 HH.out.o
      clear HSS
      go_wp2_with fail
      refine (HT.out w2 HR2).mono ?_
      rintro e w3 ⟨A3, n3, d3, rfl, k3, k4, HN3, HO3, HB3⟩
      have HH3 := Lib.hid (HH.out.far HB3.out)
      obtain ⟨c0, c2, c3⟩ := HC.out w3 HH3.out.o
      have HE := Lib.hid (eqB' A2 A3 n2 n3 d2 d3 l l true w3 _ _ HN2 HN3 (Lib.hid (by simp)) (Lib.hid (HO2.out.far HB3.out).above.2) (Lib.hid HO3.out.above.2))
      clear HT
      go_wp2_with fail
      refine HE.out.mono ?_
      rintro e w4 ⟨rfl, hb4⟩
      have HH4 : Hid (Both (fun b => U b ∨ b = g) v u w1 st w4) := Lib.hid (Both.far (Both.far (Both.far ⟨HB1.out.p, HB1.out.r, Only.refl _ _⟩ HB2.out) HB3.out) hb4)
      clear hb4
      go_wp2_with fail
      go_meet
      case rel => exact ⟨by simp, _, HH4⟩
    · go_wp2_with fail
      go_meet
      case rel => exact ⟨rfl, st, Lib.hid ⟨HB1.out.p, HB1.out.r, Only.refl _ _⟩⟩
  case rest =>
    obtain ⟨rfl, st', HC1⟩ := hcut
    have HO := Lib.hid (HB1.out.o.trans HC1.out.o fun _ h => .inl h)
    obtain ⟨c0, c2, c3⟩ := HC.out wc HO.out
    have HE := Lib.hid (eqB' (some ⟨g, 0, none⟩) A n n (n + 64) c b b true wc _ S2 hn hn (Lib.hid (by simp)) (Lib.hid (HIN.out wc HC1.out.o)) (Lib.hid (HSL.out wc HO.out)))
    go_wp2_with fail
    refine HE.out.mono ?_
    rintro e w2 ⟨rfl, hb2⟩
    have HB2 := Lib.hid hb2
    have HI2 := Lib.hid ((HI.out wc HC1.out.o).far hb2)
    clear hb2 HE c0 c2 c3
    go_wp2_with fail
    refine (spareBytes_any g n W0.heap.size b w2 hn.out HI2.out (by omega)).mono ?_
    rintro e w3 ⟨rfl, q, rfl⟩
    have HB3 := Lib.hid (bfar HB2.out (below_drewN w2 q))
    have HI3 := Lib.hid (HI2.out.drewN q)
    generalize hW : w2.drewN q = W at HB3 HI3 ⊢
    clear hW HI2 HB2
    go_wp2_with fail
    have HN := Lib.hid (show (b ++ marksW n).length = n + 64 by rw [List.length_append, marksW_len, ← hn.out])
    go_loopg [17] n (fun k iv wr => ∃ i : Nat, i ≤ n ∧ iv = .int .i64 i ∧ k = n - i ∧ ∃ l : List UInt8, Hid (l.length = n + 64) ∧ Hid (Own Rep.byte 5 wr W0.heap.size nob (.slice (some ⟨g, 0, none⟩) (n + 64) (n + 64)) l) ∧ Hid (Only (fun b => b = g) W wr))
    case atStart => exact ⟨0, Nat.zero_le _, rfl, rfl, _, HN, HI3, Lib.hid (Only.refl _ _)⟩
    case round =>
      obtain ⟨i, hi, rfl, rfl, l, HL, HOW, HOO⟩ := hrel
      rcases Nat.lt_or_ge i n with hlt | hge
      · obtain ⟨g', c', u', he, -, hgs, hcu, hfr, -, -⟩ := HOW.out.cellAt rfl (k := i) (by have := HL.out; omega)
        simp only [Value.slice.injEq, Option.some.injEq, Addr.mk.injEq] at he
        obtain ⟨⟨rfl, -⟩, -, -⟩ := he
        go_wp2_with fail
        go_roundg (n - (i + 1))
        case measure => omega
        case rel => exact ⟨i + 1, by omega, by go_num, rfl, l.set i 90, Lib.hid (by rw [List.length_set]; exact HL.out), Lib.hid (HOW.out.setCell1 rfl (by have := HL.out; omega) rfl), Lib.hid (HOO.out.setCell (.inl rfl) _)⟩
      · obtain rfl : i = n := by omega
        go_wp2_with fail
        go_ret
        refine ⟨rfl, st', Lib.hid ?_⟩
        have hF : ∀ b, b = g → (¬ ptrB v b ∧ ¬ ptrB u b) := fun b hb => ⟨fun h => by have := HU.out b (HV.out b h); omega, fun h => by have := HU.out b (HUU.out b h); omega⟩
        have hC := HC1.out.far HB3.out
        refine ⟨(hC.p.only HOO.out fun b hb => ⟨(hF b hb).1, .inl (.inr hb)⟩).turn (fun b hb => .inl (.inl hb)) HV.out, (hC.r.only HOO.out fun b hb => ⟨(hF b hb).2, .inl (.inr hb)⟩).turn (fun b hb => .inl (.inl hb)) HUU.out, ?_⟩
        have h1 : Only (fun b => ptrB v b ∨ ptrB u b) w w1 := (Only.of_below HW.out _).trans HB1.out.o fun _ h => .inl h
        have hs := HW.out.size
        exact (h1.trans hC.o fun _ h => .inl h).trans HOO.out fun x hx => .inr (by omega)
end Go.Proofs.YtejjmjbkpodolaaDoor
