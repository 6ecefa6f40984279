/- Texts that lead to the claim, one behind the other: A call of a Go function that is guarded, its guard met, by its contract, at a step of a region that draws its order (for go_region_law). No program in sight. No conditions. | The look at the texts in a bag is walked. No conditions. | galleylaw29.TempsCleans: the walk. Condition: no part weighs more than the reach; the table of powers of ten lies as it is laid. -/
import Derived.Test.YtncpeogkccjmcaaGreatDoorTK15
import Derived.Test.YtncpeogkccjmcaaGreatDoorTK36
import Derived.Test.YtncpeogkccjmcaaGreatDoorTK42
import Derived.Test.YtncpeogkccjmcaaGreatDoorTK43
import Derived.Test.YtncpeogkccjmcaaGreatDoorTK45
import Derived.Test.YtncpeogkccjmcaaGreatDoorTK47
import Derived.Test.YtncpeogkccjmcaaGreatDoorTK49
import Derived.Test.YtncpeogkccjmcaaGreatDoorTK50
namespace Go.Proofs.YtncpeogkccjmcaaGreatDoor
open Go.RowKit
section
variable {P : Program} {w : World}
theorem step_call_lawg {ops : Array Oper} {o : Oper} {a : Act} {K : Act → World → Prop} {Q : Exit → Act → World → Prop} {E : Prop} (hw : Region.wanted o (yielded ops a.tmps) = true) (f : FuncId) (xs : Array Operand) (tys : Array TypeId)
    (ho : o.op = .call { callee := .value (.func f), args := xs, argTypes := tys }) (he : ∀ args w, (callFunc f args).run P w = .ok (.enter f args) w) (vs : Array Value) (hx : xs.map a.eval = vs)
    (Φ : Ending → World → Prop) (hc : Calls P f vs w Φ) (h : ∀ e w', Φ e w' → ∃ v, e = .returned v ∧ K (a.put o.dst v) w') :
    if Region.wanted o (yielded ops a.tmps) = true then Oper.wp P o a w K Q else E := by
  rw [if_pos hw]
  unfold Oper.wp execOp
  simp only [ho, resolve, invoke, Sem.run_bind]
  rw [hx]
  have hd : a.eval (Operand.func f) = .func (.func f) #[] #[] := rfl
  simp only [hd, Deferred.ofValue, Sem.run_pure, Result.andThen_ok, Array.empty_append, he]
  rw [Oper.upon_enter]
  refine hc.mono fun e w' hh => ?_
  obtain ⟨v, rfl, hK⟩ := h e w' hh
  exact hK
end
end Go.Proofs.YtncpeogkccjmcaaGreatDoor
namespace Go.Proofs.YtncpeogkccjmcaaGreatDoor
open Go.RowKit Go.ChangeShapes Go.WideShapes Go.Deep

theorem looked_texts : Looked Pow 3 := fun gb gB cB N As ks cs w base h1 h2 h3 h4 h5 h6 h7 h8 h9 h10 h11 => apartTexts_any gb gB cB N As ks cs w base h1 h2 h3 h4 h5 h6 h7 h8 h9 h10 h11
end Go.Proofs.YtncpeogkccjmcaaGreatDoor
namespace Go.Proofs.YtncpeogkccjmcaaGreatDoor
open Go.RowKit Go.ChangeShapes Go.WideShapes Go.Deep

theorem e29Step : ∀ args w, (callFunc 11 args).run Tryz.prog w = .ok (.enter 11 args) w := enters_of Tryz.func11 (by kernel_rfl) rfl
theorem e29Due : ∀ args w, (callFunc 12 args).run Tryz.prog w = .ok (.enter 12 args) w := enters_of Tryz.func12 (by kernel_rfl) rfl
theorem e29Alike : ∀ args w, (callFunc 13 args).run Tryz.prog w = .ok (.enter 13 args) w := enters_of Tryz.func13 (by kernel_rfl) rfl
theorem baR_eq : baR = ba := rfl
section
variable {w0 w w' : World} {F G : Blocks} {d r gb : Nat} {s : Disk.St} {vs : Nat → Value} {es : Nat → List Ent}
theorem eqT29 (A B : Option Addr) (n c m e : Nat) (l : List Disk.Nm) (b1 b2 : Nat) (h1 : Own Rep.str 9 w b1 nob (.slice A n c) (l.map ba)) (h2 : Own Rep.str 9 w b2 nob (.slice B m e) (l.map ba)) :
    Calls Tryz.prog 14 #[.slice A n c, .slice B m e] w fun e w' => e = .returned (.bool true) ∧ Below w.heap.size w w' := by
  obtain ⟨A1, c1, he1, hs1⟩ := h1.slice
  obtain ⟨A2, c2, he2, hs2⟩ := h2.slice
  simp only [Value.slice.injEq] at he1 he2
  obtain ⟨rfl, hn, rfl⟩ := he1
  obtain ⟨rfl, hm, rfl⟩ := he2
  have h := eqTexts A B c e (l.map ba) (l.map ba) w _ _ hs1 hs2
  rw [← hn] at h
  have hnm : n = m := hn.trans hm.symm
  rw [← hnm]
  refine h.mono ?_
  rintro e w' ⟨rfl, q, rfl⟩
  exact ⟨by rw [decide_eq_true rfl], below_dr w q⟩
/-- At the start. -/
theorem T29.start {w3 w4 : World} (hd : DiskAt w3 F d s) (hF : ∀ b, F b → w0.heap.size ≤ b) (hr : RefAt w4 w3.heap.size r s) (hb3 : Below w0.heap.size w0 w3) (hb4 : Below w3.heap.size w3 w4) :
    T29 w0 (w4.alloc (bagG fun _ => .slice none 0 0)) F (btw w3.heap.size w4.heap.size) d r w4.heap.size s s (fun _ => .slice none 0 0) (fun _ => []) := by
  have hal := (Below.refl w4.heap.size w4).alloc (Nat.le_refl _) (bagG fun _ => .slice none 0 0)
  have hs3 := hb3.size
  have hs4 := hb4.size
  have hgf : ∀ b, GF w4.heap.size (fun _ => .slice none 0 0) b → b = w4.heap.size := by
    rintro b (rfl | ⟨j, hj, e⟩)
    · rfl
    · simp [Value.ownBlock] at e
  have hge : ∀ b, ¬ GE (fun _ => []) 19 b := by
    rintro b ⟨k, hk, x, hx, -⟩
    exact List.not_mem_nil hx
  have hlt := dk_lt hd
  refine ⟨dk_only (dk_only hd (Only.of_below hb4 nob) fun _ _ h => h) (Only.of_below hal nob) fun _ _ h => h, hr.toF.far hal, BagG.start w4 w0.heap.size (Nat.le_trans hs3 hs4), fun _ _ => rfl, (hb3.trans (hb4.mono hs3)).trans (hal.mono (Nat.le_trans hs3 hs4)), fun b hb => ⟨hF b hb, fun hg => ?_, fun hg => ?_, hge b⟩, fun b hb => ⟨Nat.le_trans hs3 hb.1, fun hg => ?_, hge b⟩⟩
  · have := hlt b hb; have := hg.1; omega
  · have := hlt b hb; have := hgf b hg; omega
  · have := hb.2; have := hgf b hg; omega
theorem ge_addE {x : Ent} : ∀ b, GE (addE es 3 x) 19 b → GE es 19 b ∨ (Ent.v x).ownBlock = some b := by
  rintro b ⟨k, hk, y, hy, e⟩
  unfold addE at hy
  split at hy
  · rename_i e3
    subst e3
    split at hy
    · rcases List.mem_append.1 hy with hy | hy
      · exact .inl ⟨_, hk, y, hy, e⟩
      · rw [List.mem_singleton.1 hy] at e; exact .inr e
    · exact .inl ⟨_, hk, y, hy, e⟩
  · exact .inl ⟨_, hk, y, hy, e⟩
theorem CellsAt.seven29 {g o : Nat} {v0 v1 v2 v3 v4 v5 v6 : Value} (h : CellsAt w g o [v0, v1, v2, v3, v4, v5, v6]) : w.cell? ⟨g, o, none⟩ = some v0 ∧ w.cell? ⟨g, o + 1, none⟩ = some v1 ∧ w.cell? ⟨g, o + 2, none⟩ = some v2 ∧ w.cell? ⟨g, o + 3, none⟩ = some v3 ∧ w.cell? ⟨g, o + 4, none⟩ = some v4 ∧ w.cell? ⟨g, o + 5, none⟩ = some v5 ∧ w.cell? ⟨g, o + 6, none⟩ = some v6 :=
  ⟨h 0 _ rfl, h 1 _ rfl, h 2 _ rfl, h 3 _ rfl, h 4 _ rfl, h 5 _ rfl, h 6 _ rfl⟩
end
section
variable {w : World}
set_option linter.unusedSimpArgs false in
set_option maxRecDepth 100000 in
set_option maxHeartbeats 8000000 in
theorem tempsCleans_law (room : Int) (fs : List Disk.Fin_) (ops : List Op29V) (A B : Option Addr) (n c m mc : Nat) (hn : Hid (n = fs.length)) (hm : Hid (m = ops.length)) (h1 : Hid (SliceAt Rep.fin w (under w.heap.size) A c fs)) (h2 : Hid (SliceAt Rep.op29 w (under w.heap.size) B mc ops))
    (hf : Hid (∀ f ∈ fs, finReachS f)) (hop : Hid (∀ o ∈ ops, opReachS o)) (hnb : n ≤ 281474976710656) (hmb : m ≤ 281474976710656) (hP : Hid (Pow w)) :
    Calls Tryz.prog 3 #[.int .i64 room, .slice A n c, .slice B m mc] w fun e w' => e = .returned (.bool true) ∧ Below w.heap.size w w' := by
  have hnc : n ≤ c := by rw [hn.out]; exact h1.out.len
  have hcm := h1.out.max
  have hmd : m ≤ mc := by rw [hm.out]; exact h2.out.len
  have hdm := h2.out.max
  have HSM : Hid (∀ wr, Below w.heap.size w wr → Same (under w.heap.size) w wr) := Lib.hid fun wr hb => Same.of_below hb fun _ h => h
  have HLG := Lib.hid (longS_any (w := w) fs ops A B n c m mc (under w.heap.size) hn hm h1 h2 (Lib.hid fun _ h => h) hf hop hnb hmb)
  go_enter Tryz.func3, Tryz.ntmps3
  go_wp2_with fail
  refine HLG.out.mono ?_
  rintro e w1 ⟨b, rfl, hw, hb1⟩
  have HB1 := Lib.hid hb1
  cases b
  case true =>
    clear hb1 hw
    go_wp2_with fail
    go_ret
    exact ⟨rfl, HB1.out⟩
  have HW := Lib.hid (hw rfl)
  clear hb1 hw HLG
  have hn1 : n ≤ 2147483647 := by rw [hn.out]; have := HW.out; unfold WithinS at this; omega
  have hm1 : m ≤ 2147483647 := by rw [hm.out]; have := HW.out; unfold WithinS at this; omega
  have HUL : Hid (∀ wr, Below w.heap.size w wr → ∀ b, under w.heap.size b → b < wr.heap.size) := Lib.hid fun wr hb b h => Nat.lt_of_lt_of_le h hb.size
  have HCF := Lib.hid (copyFiles_any (w := w1) A n c fs (under w.heap.size) hn (Lib.hid (h1.out.keep (fun _ h => h) (HSM.out w1 HB1.out))) (Lib.hid (HUL.out w1 HB1.out)) (Lib.hid fun f hf' => by have := (HW.out.file hf').1; omega) (by omega))
  go_wp2_with fail
  refine HCF.out.mono ?_
  rintro e w2 ⟨A', c', rfl, hc1, hc2, hs2, hb2⟩
  have HB2 : Hid (Below w.heap.size w w2) := Lib.hid (HB1.out.trans (hb2.mono HB1.out.size))
  have HS2 := Lib.hid hs2
  clear hs2 hb2 HCF
  obtain ⟨q, hq⟩ : ∃ q, q = Disk.fromErr room fs := ⟨_, rfl⟩
  have HFM : Hid (Calls Tryz.prog 5 #[.int .i64 room, .slice A' n c'] w2 fun e w3 => (q ≠ 0 ∧ e = .returned (.tuple #[.pointer none, .int .i64 q]) ∧ Below w2.heap.size w2 w3) ∨ (q = 0 ∧ ∃ d, e = .returned (.tuple #[.pointer (some ⟨d, 0, none⟩), .int .i64 0]) ∧ DiskAt w3 (btw w2.heap.size w3.heap.size) d (Disk.fromSt room fs) ∧ Below w2.heap.size w2 w3)) := Lib.hid (by
    rw [hq]
    exact from_any room A' n c' fs _ hn (Lib.hid HS2.out) (Lib.hid fun b hb => hb.2) (Lib.hid fun f hf' => by have := (HW.out.file hf').1; omega))
  have HRF : Hid (∀ wr, Below w.heap.size w wr → Calls Tryz.prog 7 #[.int .i64 room, .slice A n c] wr fun e w3 => (q ≠ 0 ∧ e = .returned (.tuple #[.pointer none, .int .i64 q]) ∧ Below wr.heap.size wr w3) ∨ (q = 0 ∧ ∃ d, e = .returned (.tuple #[.pointer (some ⟨d, 0, none⟩), .int .i64 0]) ∧ RefAt w3 wr.heap.size d (Disk.fromSt room fs) ∧ Below wr.heap.size wr w3)) := Lib.hid fun wr hb => by
    rw [hq]
    exact refFrom_any room A n c fs (under w.heap.size) hn (Lib.hid (h1.out.keep (fun _ h => h) (HSM.out wr hb))) (Lib.hid (HUL.out wr hb)) (Lib.hid fun f hf' => by have := (HW.out.file hf').1; omega)
  have HQ := Lib.hid hq
  clear hq
  have hqq : (q != q) = false := bne_self_eq_false q
  go_wp2_with fail
  refine HFM.out.mono ?_
  rintro e w3 (⟨h0, rfl, hb3⟩ | ⟨h0, d, rfl, hd3, hb3⟩)
  · have HB3 : Hid (Below w.heap.size w w3) := Lib.hid (HB2.out.trans (hb3.mono HB2.out.size))
    have hqb : (q != 0) = true := bne_iff_ne.2 h0
    have H0 := Lib.hid h0
    clear hb3 HFM h0
    go_wp2_with fail
    refine (HRF.out w3 HB3.out).mono ?_
    rintro e w4 (⟨-, rfl, hb4⟩ | ⟨h0, -⟩)
    rotate_left 1
    · exact absurd h0 H0.out
    have HB4 : Hid (Below w.heap.size w w4) := Lib.hid (HB3.out.trans (hb4.mono HB3.out.size))
    clear hb4 HRF
    go_wp2_with fail
    refine (clean_nd none (Lib.hid (nd_nil _))).mono ?_
    rintro e w5 ⟨rfl, hb5⟩
    have HB5 : Hid (Below w.heap.size w w5) := Lib.hid (HB4.out.trans (hb5.mono HB4.out.size))
    clear hb5
    go_wp2_with fail
    have hal := (Below.refl w5.heap.size w5).alloc (Nat.le_refl _) (.cells #[.map none, .map none, .slice none 0 0, .bool false, .bool false, .int .i64 0, .slice none 0 0, .int .i64 0, .int .i64 0] 40)
    have HB5a := Lib.hid (HB5.out.trans (hal.mono HB5.out.size))
    clear hal
    refine (clean_nd (some ⟨w5.heap.size, 0, none⟩) (Lib.hid (nd_zero _ _ (heap_alloc_new _ _)))).mono ?_
    rintro e w6 ⟨rfl, hb6⟩
    have HB6 : Hid (Below w.heap.size w w6) := Lib.hid (HB5a.out.trans (hb6.mono HB5a.out.size))
    clear hb6
    go_wp2_with fail
    refine (stale_nd none (Lib.hid (nd_nil _))).mono ?_
    rintro e w7 ⟨SA, sn, sc, rfl, hsn, hsc, hsm, -, hb7⟩
    have HB7 : Hid (Below w.heap.size w w7) := Lib.hid (HB6.out.trans (hb7.mono HB6.out.size))
    obtain rfl : sn = 0 := hsn.out
    clear hb7 hsn
    go_wp2_with fail
    refine tworks_any.mono ?_
    rintro e w8 ⟨rfl, hb8⟩
    have HB8 : Hid (Below w.heap.size w w8) := Lib.hid (HB7.out.trans (hb8.mono HB7.out.size))
    clear hb8
    go_wp2_with fail
    go_ret
    exact ⟨rfl, HB8.out⟩
  subst h0
  have HE : Hid (Disk.fromErr room fs = 0) := Lib.hid HQ.out.symm
  have HB3 : Hid (Below w.heap.size w w3) := Lib.hid (HB2.out.trans (hb3.mono HB2.out.size))
  have HD3 := Lib.hid hd3
  have HF3 : Hid (∀ b, btw w2.heap.size w3.heap.size b → w.heap.size ≤ b) := Lib.hid fun b hb => Nat.le_trans HB2.out.size hb.1
  clear hb3 hd3 HFM HQ hqq
  go_wp2_with fail
  refine (HRF.out w3 HB3.out).mono ?_
  rintro e w4 (⟨h0, -⟩ | ⟨-, r, rfl, hr4, hb4⟩)
  · exact absurd rfl h0
  obtain ⟨s0, hs0⟩ : ∃ s0, s0 = Disk.fromSt room fs := ⟨_, rfl⟩
  have HS0 : Hid (Disk.Sm 0 s0) := Lib.hid (by rw [hs0]; exact Disk.Sm.from_ HE.out)
  rw [← hs0] at hr4 HD3
  have HT0 := Lib.hid (T29.start (w0 := w) HD3.out HF3.out hr4 HB3.out hb4)
  obtain ⟨F0, hF0⟩ : ∃ F0, F0 = btw w2.heap.size w3.heap.size := ⟨_, rfl⟩
  obtain ⟨G0, hG0⟩ : ∃ G0, G0 = btw w3.heap.size w4.heap.size := ⟨_, rfl⟩
  rw [← hF0, ← hG0] at HT0
  obtain ⟨gb, hgb⟩ : ∃ g, g = w4.heap.size := ⟨_, rfl⟩
  rw [← hgb] at HT0
  clear hr4 hb4 HD3 HF3 hs0 HE hF0 hG0 HRF HB3 HB2 HS2
  go_wp2_with fail
  rw [← hgb]
  clear hgb
  go_loopg [12] m (fun q i wr => ∃ (j : Nat) (F G : Blocks) (s : Disk.St) (vs : Nat → Value) (es : Nat → List Ent), q = m - j ∧ j ≤ m ∧ i = .int .i64 j ∧ Hid (T29 w wr F G d r gb s s vs es) ∧ Hid (Disk.Sm (70 * j) s))
  case atStart => exact ⟨0, F0, G0, s0, _, _, rfl, by omega, rfl, HT0, HS0⟩
  case round =>
    clear HT0 HS0
    obtain ⟨j, F, G, s, vs, es, rfl, hj, rfl, HT, HS⟩ := hrel
    by_cases hjm : j < m
    · have hjl : j < ops.length := by rw [← hm.out]; exact hjm
      obtain ⟨g', o, cs, rfl, hg, hcs, P, pc, Q, qc, R, rc, rfl, hPb, hQf, hRk, hN1, hN2⟩ := h2.out.at_ (i := j) hjl
      obtain ⟨r1, r2, r3⟩ := HW.out.op (List.getElem_mem hjl)
      obtain ⟨ov, hov⟩ : ∃ x, x = ops[j] := ⟨_, rfl⟩
      rw [← hov] at hcs hPb hQf hRk hN1 hN2 r1 r2 r3
      obtain ⟨nm, hnm⟩ : ∃ nm : ByteArray, nm = ⟨ov.name.toArray⟩ := ⟨_, rfl⟩
      obtain ⟨nt, hnt⟩ : ∃ nm : ByteArray, nm = ⟨ov.dst.toArray⟩ := ⟨_, rfl⟩
      have e1 : sv ov.name = .string nm := congrArg Value.string hnm.symm
      have e2 : sv ov.dst = .string nt := congrArg Value.string hnt.symm
      obtain ⟨kb, hkb⟩ : ∃ k', k' = ov.b.length := ⟨_, rfl⟩
      obtain ⟨kf, hkf⟩ : ∃ k', k' = ov.faults.length := ⟨_, rfl⟩
      obtain ⟨kk, hkk⟩ : ∃ k', k' = ov.keep.length := ⟨_, rfl⟩
      obtain ⟨kd, hkd⟩ : ∃ k', k' = ov.kind := ⟨_, rfl⟩
      obtain ⟨ku, hku⟩ : ∃ k', k' = ov.num := ⟨_, rfl⟩
      rw [e1, e2, ← hkb, ← hkf, ← hkk, ← hkd, ← hku] at hcs
      rw [show Rep.op29.n = 7 from rfl] at hcs
      have HCL : Hid (∀ wx, Below w.heap.size w wx → CellsAt wx g' (o + j * 7) [.int .i64 kd, .string nm, .string nt, .slice P kb pc, .slice Q kf qc, .int .i64 ku, .slice R kk rc]) := Lib.hid fun wx hb => hcs.keep hg (HSM.out wx hb)
      have HOI : Hid (∀ wx, Below w.heap.size w wx → OpIs29 wx (under w.heap.size) ⟨kd, nm, nt, P, kb, pc, Q, kf, qc, ku, R, kk, rc⟩ ov) := Lib.hid fun wx hb =>
        { kind := hkd, name := by rw [hnm], dst := by rw [hnt], num := hku, bn := hkb, fn := hkf, kn := hkk, b := hPb.keep (fun _ h => h) (HSM.out wx hb), f := hQf.keep (fun _ h => h) (HSM.out wx hb), k := hRk.keep (fun _ h => h) (HSM.out wx hb),
          nl := by rw [hnm]; exact hN1, dl := by rw [hnt]; exact hN2 }
      have hb1 : kb ≤ 2147483648 := by omega
      have hb2 : kf ≤ 2147483648 := by omega
      have hb3 : kk ≤ 2147483648 := by omega
      obtain ⟨z, hz⟩ : ∃ z, z = s.step29 ov := ⟨_, rfl⟩
      obtain ⟨t, a⟩ := z
      have HZ := Lib.hid hz
      have HSt : Hid (Disk.Sm (70 * (j + 1)) t) := Lib.hid (by
        have h := Disk.sm_step29 HS.out ov
        rw [← hz] at h
        exact h.mono (by omega))
      clear hcs hPb hQf hRk hN1 hN2 r1 r2 r3 hov hnm hnt e1 e2 hkb hkf hkk hkd hku hg hz
      have HUW : Hid (∀ wx F' G' s1 s2 vs es, T29 w wx F' G' d r gb s1 s2 vs es → (∀ b, under w.heap.size b → b < wx.heap.size ∧ ¬ F' b) ∧ (∀ b, under w.heap.size b → b < wx.heap.size ∧ ¬ G' b)) := Lib.hid fun wx F' G' s1 s2 vs es h =>
        ⟨fun b hb => ⟨Nat.lt_of_lt_of_le hb h.below.size, fun hf => by have := (h.fb b hf).1; have : b < w.heap.size := hb; omega⟩, fun b hb => ⟨Nat.lt_of_lt_of_le hb h.below.size, fun hf => by have := (h.gb_ b hf).1; have : b < w.heap.size := hb; omega⟩⟩
      have HSTEP : Hid (∀ wx, Below wr.heap.size wr wx → Calls Tryz.prog 11 #[.pointer (some ⟨d, 0, none⟩), .agg #[.int .i64 kd, .string nm, .string nt, .slice P kb pc, .slice Q kf qc, .int .i64 ku, .slice R kk rc]] wx fun e w' => e = .returned (.int .i64 a) ∧ ∃ F2, T29 w w' F2 G d r gb t s vs es) := Lib.hid fun wx hb => by
        have hT := HT.out.far hb
        have h := step_any (w := wx) ⟨kd, nm, nt, P, kb, pc, Q, kf, qc, ku, R, kk, rc⟩ ov (under w.heap.size) (Lib.hid hT.dk) HS (by omega) (Lib.hid (HOI.out wx hT.below)) (Lib.hid (HUW.out _ _ _ _ _ _ _ hT).1) hb1 hb2 hb3
        rw [← HZ.out] at h
        refine h.mono ?_
        intro e w' hc
        obtain ⟨x1, x2⟩ := hT.dcall hc
        exact ⟨x1, _, x2⟩
      have HDUE : Hid (∀ wx F2, T29 w wx F2 G d r gb t s vs es → Calls Tryz.prog 12 #[.pointer (some ⟨r, 0, none⟩), .agg #[.int .i64 kd, .string nm, .string nt, .slice P kb pc, .slice Q kf qc, .int .i64 ku, .slice R kk rc]] wx fun e w' => e = .returned (.int .i64 a) ∧ ∃ G2, T29 w w' F2 G2 d r gb t t vs es) := Lib.hid fun wx F2 hT => by
        have h := due_any (w := wx) ⟨kd, nm, nt, P, kb, pc, Q, kf, qc, ku, R, kk, rc⟩ ov (under w.heap.size) (Lib.hid hT.rf) HS (by omega) (Lib.hid (HOI.out wx hT.below)) (Lib.hid (HUW.out _ _ _ _ _ _ _ hT).2) hb1 hb2 hb3
        rw [← HZ.out] at h
        refine h.mono ?_
        intro e w' hc
        obtain ⟨x1, x2⟩ := hT.rcall hc
        exact ⟨x1, _, x2⟩
      have HALK : Hid (∀ wx F2 G2 vs es, T29 w wx F2 G2 d r gb t t vs es → Calls Tryz.prog 13 #[.pointer (some ⟨d, 0, none⟩), .pointer (some ⟨r, 0, none⟩)] wx fun e w' => e = .returned (.bool true) ∧ T29 w w' F2 G2 d r gb t t vs es) := Lib.hid fun wx F2 G2 vs es hT => by
        refine (alike_any (w := wx) (Lib.hid hT.dk) (Lib.hid hT.rf) (Lib.hid HSt.out.fine)).mono ?_
        rintro e w' ⟨x1, x2⟩
        exact ⟨x1, hT.far x2⟩
      have HBR := Lib.hid HT.out.below
      obtain ⟨c0, c1, c2, c3, c4, c5, c6⟩ := (HCL.out wr HBR.out).seven29
      have haa : (a != a) = false := bne_self_eq_false a
      go_wp2_with fail
      go_cut [78] from 54 to 105 (fun v78 wc => v78 = .bool false ∧ ∃ F2 G2, Hid (T29 w wc F2 G2 d r gb t t vs es))
      case first =>
        go_region_law (first
          | (refine step_call_law rfl 11 #[.tmp 60, .tmp 64] #[25, 70] rfl e29Step #[.pointer (some ⟨d, 0, none⟩), .agg #[.int .i64 kd, .string nm, .string nt, .slice P kb pc, .slice Q kf qc, .int .i64 ku, .slice R kk rc]] (by simp [Act.eval]) _ (HSTEP.out _ (by first | exact Below.refl _ _ | exact (Below.refl _ _).drew)) ?_; rintro e wi ⟨rfl, F2, hT2⟩; have HT2 := Lib.hid hT2; clear hT2; obtain ⟨d0, d1, d2, d3, d4, d5, d6⟩ := (HCL.out wi HT2.out.below).seven29; refine ⟨_, rfl, ?_⟩)
          | (refine step_call_law rfl 12 #[.tmp 66, .tmp 70] #[30, 70] rfl e29Due #[.pointer (some ⟨r, 0, none⟩), .agg #[.int .i64 kd, .string nm, .string nt, .slice P kb pc, .slice Q kf qc, .int .i64 ku, .slice R kk rc]] (by simp [Act.eval]) _ (HDUE.out wi F2 HT2.out) ?_; rintro e wj ⟨rfl, G2, hT3⟩; have HT3 := Lib.hid hT3; clear hT3; refine ⟨_, rfl, ?_⟩)
          | (refine step_call_lawg (by first | rfl | (simp [Region.wanted, yielded])) 13 #[.tmp 74, .tmp 75] #[25, 30] rfl e29Alike #[.pointer (some ⟨d, 0, none⟩),   .pointer (some ⟨r, 0, none⟩)] (by first | rfl | simp [Act.eval, Act.put]) _ (HALK.out wj F2 G2 vs es HT3.out) ?_; rintro e wk ⟨rfl, hT4⟩; have HT4 := Lib.hid hT4; clear hT4; refine ⟨_, rfl, ?_⟩)
          | fail)
        all_goals
          go_wp2_with fail
          go_meet
          case rel => exact ⟨rfl, F2, G2, HT4⟩
      case rest =>
        obtain ⟨rfl, F2, G2, HT2⟩ := hcut
        clear HSTEP HDUE HT HUW HOI HCL HZ HBR c0 c1 c2 c3 c4 c5 c6 haa
        have HST := Lib.hid (Disk.stale_len HSt.out.fine)
        go_wp2_with fail
        refine (stale_any (Lib.hid HT2.out.dk) (Lib.hid HSt.out.fine) HST.out).mono ?_
        rintro e wa ⟨A1, n1, k1, rfl, hn1, hnk1, hkm1, ho1, hb1⟩
        have HO1 := Lib.hid ho1
        have HTa := Lib.hid (HT2.out.far hb1)
        have HBa := Lib.hid hb1
        have hn1b : n1 ≤ 64 := by rw [hn1.out]; exact HST.out
        have HN1 := hn1
        clear ho1 hb1 hn1
        go_wp2_with fail
        refine (stale_any (Lib.hid HTa.out.dk) (Lib.hid HSt.out.fine) HST.out).mono ?_
        rintro e wb ⟨A2, n2, k2, rfl, hn2, hnk2, hkm2, ho2, hb2⟩
        have HO2 := Lib.hid ho2
        have HTb := Lib.hid (HTa.out.far hb2)
        have HO1b := Lib.hid (HO1.out.far hb2)
        have HBb := Lib.hid hb2
        have hn2b : n2 ≤ 64 := by rw [hn2.out]; exact HST.out
        have HN2 := hn2
        clear ho2 hb2 hn2
        go_wp2_with fail
        refine (refStale_any (Lib.hid HTb.out.rf) HSt.out.fine.nowL).mono ?_
        rintro e wd ⟨A3, n3, k3, rfl, hn3, hnk3, hkm3, ho3, hb3'⟩
        rw [baR_eq] at ho3
        have HTd := Lib.hid (HTb.out.far hb3')
        have HO1d := Lib.hid (HO1b.out.far hb3')
        have HO2d := Lib.hid (HO2.out.far hb3')
        have HO3 := Lib.hid ho3
        have HBd := Lib.hid hb3'
        clear hn3 ho3 hb3' HO1b
        go_wp2_with fail
        refine (eqT29 A1 A3 n1 k1 n3 k3 t.stale _ _ HO1d.out HO3.out).mono ?_
        rintro e we ⟨rfl, hb4⟩
        have HTe := Lib.hid (HTd.out.far hb4)
        have HO1e := Lib.hid (HO1d.out.far hb4)
        have HO2e := Lib.hid (HO2d.out.far hb4)
        clear hb4 HO1d HO2d HO3
        go_wp2_with fail
        refine (eqT29 A2 A1 n2 k2 n1 k1 t.stale _ _ HO2e.out HO1e.out).mono ?_
        rintro e wf ⟨rfl, hb5⟩
        have HTf := Lib.hid (HTe.out.far hb5)
        have HO1f := Lib.hid (HO1e.out.far hb5)
        have HO2f := Lib.hid (HO2e.out.far hb5)
        clear hb5 HO1e HO2e
        go_wp2_with fail
        refine (alike_any (Lib.hid HTf.out.dk) (Lib.hid HTf.out.rf) (Lib.hid HSt.out.fine)).mono ?_
        rintro e wg ⟨rfl, hb6⟩
        have HTg := Lib.hid (HTf.out.far hb6)
        have HO1g := Lib.hid (HO1f.out.far hb6)
        have HO2g := Lib.hid (HO2f.out.far hb6)
        clear hb6 HO1f HO2f
        have HL1 : Hid (∀ b, wc.heap.size ≤ b → ¬ F2 b ∧ ¬ G2 b ∧ ¬ GE es 19 b) := Lib.hid fun b hb => ⟨fun h => by have := dk_lt HT2.out.dk b h; omega, fun h => by have := rf_lt HT2.out.rf b h; omega, fun h => by have := ge_lt HT2.out.bag h; omega⟩
        have HWC : Hid (w.heap.size ≤ wc.heap.size) := Lib.hid HT2.out.below.size
        have HFT1 := Lib.hid (HTg.out.fits HO1g.out HWC.out (by omega) fun b hb => (HL1.out b hb).2.2)
        go_wp2_with fail
        refine (addTexts_G w.heap.size gb vs es wg A1 n1 k1 (Lib.hid HTg.out.bag) HFT1).mono ?_
        rintro e wh ⟨rfl, hadd⟩
        have HON1 : Hid (Only (GF gb vs) wg wh) := Lib.hid (by obtain ⟨_, _, hon, _⟩ := hadd; exact hon)
        have hth := HTg.out.added (x := (A1, n1, k1)) (fun b hb => ⟨(HL1.out b (HO1g.out.block_lt hb).1).1, (HL1.out b (HO1g.out.block_lt hb).1).2.1⟩) hadd
        obtain ⟨v1, hth⟩ := hth
        have HTh := Lib.hid hth
        have HO2h := Lib.hid (HO2g.out.only HON1.out fun b hb => HTg.out.bag.notF HO2g.out (by decide) (kE_kS 3 (by omega) (by omega) (by omega) (by omega)) hb)
        have HWA : Hid (wc.heap.size ≤ wa.heap.size) := Lib.hid HBa.out.size
        have HL2 : Hid (∀ b, wa.heap.size ≤ b → ¬ GE (addE es 3 (A1, n1, k1)) 19 b) := Lib.hid fun b hb h => by
          rcases ge_addE b h with h | h
          · exact (HL1.out b (Nat.le_trans HWA.out hb)).2.2 h
          · have := (HO1.out.block_lt h).2; omega
        have HFT2 := Lib.hid (HTh.out.fits HO2h.out (Nat.le_trans HWC.out HWA.out) (by omega) HL2.out)
        clear hadd hth HTg HO1g HO2g
        go_wp2_with fail
        refine (addTexts_G w.heap.size gb _ _ wh A2 n2 k2 (Lib.hid HTh.out.bag) HFT2).mono ?_
        rintro e wi ⟨rfl, hadd⟩
        have hti := HTh.out.added (x := (A2, n2, k2)) (fun b hb => ⟨(HL1.out b (Nat.le_trans HWA.out (HO2h.out.block_lt hb).1)).1, (HL1.out b (Nat.le_trans HWA.out (HO2h.out.block_lt hb).1)).2.1⟩) hadd
        obtain ⟨v2, hti⟩ := hti
        have HTi := Lib.hid hti
        clear hadd hti
        go_wp2_with fail
        go_roundg (m - (j + 1))
        case measure => omega
        case rel => exact ⟨j + 1, F2, G2, t, _, _, rfl, by omega, by go_num, HTi, HSt⟩
    · obtain rfl : m = j := by omega
      have HBR := Lib.hid HT.out.below
      go_wp2_with fail
      refine (apart_Gb HT.out.bag (Q := Pow) (fun W hW => hP.out.below (HBR.out.trans hW)) (fun k hk hne => ?_)).mono ?_
      · by_cases h3 : k = 3
        · subst h3; exact looked_texts
        · exact absurd (HT.out.one k h3) hne
      rintro e wy ⟨rfl, hb7⟩
      have HB7 := Lib.hid (HBR.out.trans hb7)
      clear hb7
      go_wp2_with fail
      refine tworks_any.mono ?_
      rintro e wz ⟨rfl, hb8⟩
      have HB8 : Hid (Below w.heap.size w wz) := Lib.hid (HB7.out.trans (hb8.mono HB7.out.size))
      clear hb8
      go_wp2_with fail
      go_ret
      exact ⟨rfl, HB8.out⟩
end
end Go.Proofs.YtncpeogkccjmcaaGreatDoor
