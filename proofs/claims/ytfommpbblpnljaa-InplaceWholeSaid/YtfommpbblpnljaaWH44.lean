/- Texts that lead to the claim, one behind the other: The walk of a run of galleylaw30.Case. Condition: the counts are below 2^40. -/
import Derived.Test.YtfommpbblpnljaaWH43
import Derived.Deep.LoopGhost
import Derived.Deep.MidRow
import Derived.OpenShut
namespace Go.Proofs.Ytfommpbblpnljaa
open Go.RowKit Go.ChangeShapes Go.WideShapes Go.Deep

theorem u8_bits (op : BinOp) (a b : Int) : ∃ y : UInt8, bits op .u8 a b = y.toNat := by
  have h := wf_bits op .u8 a b
  simp [Lit.wf, IntKind.min, IntKind.max, IntKind.signed, IntKind.bits] at h
  refine ⟨UInt8.ofNat (bits op .u8 a b).toNat, ?_⟩
  simp
  omega
/-- Between two steps of a run. -/
def RunInv (W W' : World) (G0 Z0 : Blocks) (rb : Option Nat) (d : Nat) (t : Disk.Nm) (o dB tB x : Nat) (c : Disk.Nm) (acts : List Disk.ActV) (k : Nat) (R : Disk.St × Disk.Ou × List UInt8 × Int) (i : Nat) : Prop :=
  ∃ s ou whole G Z bv av wv an, RS W W' G0 Z0 G Z rb d s t o dB tB ou x 1 whole bv av wv an true ∧ R = Disk.St.runGo c t (acts.drop i) s ou whole ∧ Disk.Fine s ∧ Disk.Small (k + Disk.wsum (acts.take i)) s ∧ ou.held.length ≤ Disk.wsum (acts.take i) ∧ whole.length ≤ Disk.wsum (acts.take i) ∧ an.length ≤ i
theorem act_at {w : World} {S : Blocks} {A : Option Addr} {c : Nat} {l : List Disk.ActV} (h : SliceAt Rep.actv w S A c l) {i : Nat} (hi : i < l.length) :
    ∃ g o A' c', A = some ⟨g, o, none⟩ ∧ S g ∧ CellsAt w g (o + i * 4) [.int .i64 l[i].kind, .slice A' l[i].parts.length c', sv l[i].name, .int .i64 l[i].err] ∧ SliceAt Rep.byte.slice w S A' c' l[i].parts ∧ l[i].name.length ≤ maxLen ∧ (Lit.int .i64 l[i].kind).wf = true ∧ (Lit.int .i64 l[i].err).wf = true := by
  obtain ⟨g, o, cs, e, hb, hc, A', c', rfl, hs, h1, h2, h3⟩ := h.at_ hi
  exact ⟨g, o, A', c', e, hb, hc, hs, h1, h2, h3⟩
theorem stErrs : SliceType Try.prog 52 30 1 8 := SliceType.mk' (z := .int .i64 0) Try.underlying52 (by kernel_rfl) rfl (by omega)
theorem other_len {c n : Disk.Nm} (h : n.length ≤ maxLen) : (Disk.other c n).length ≤ maxLen := by
  by_cases hc : 1 < n.length ∨ n = c ∨ n = []
  · rw [other_yes hc]; split <;> simp [maxLen]
  · rw [other_no hc]; exact h
section
variable {W : World} {G0 Z0 : Blocks} {d : Nat} {s : Disk.St} {t : Disk.Nm} {o dB tB x : Nat} {bv av wv : Value}
set_option linter.unusedSimpArgs false in
set_option maxRecDepth 100000 in
set_option maxHeartbeats 8000000 in
theorem run30_any (C : CaseP) (acts : List Disk.ActV) (S : Blocks) (rB cB xB : Nat) (HO : Hid (OutS W G0 d s t o dB tB ⟨[], 0⟩)) (HX : Hid (RunRec W Z0 x 0 [] bv av wv [] true)) (hap : Hid (∀ b, Z0 b → ¬ G0 b))
    (A : Option Addr) (m c : Nat) (bb : List UInt8) (hm : Hid (m = bb.length)) (base : Nat) (hrow : Hid (Own Rep.byte 5 W base nob (.slice A m c) bb)) (hrg : Hid (∀ b, (Value.slice A m c).ownBlock = some b → ¬ G0 b ∧ ¬ Z0 b)) (hmb : m ≤ 1099511627776)
    (hT : Hid (∀ b, (S b ∨ b = rB ∨ b = cB ∨ b = xB) → b < W.heap.size ∧ ¬ (G0 b ∨ Z0 b ∨ (Value.slice A m c).ownBlock = some b)))
    (h2 : Hid (Boxed W rB 51 (.pointer (some ⟨x, 0, none⟩)))) (h3 : Hid (W.heap[cB]? = some (.cells C.cells 41 (0, 0)))) (h4 : Hid (Boxed W xB 22 (.pointer (some ⟨d, 0, none⟩))))
    (hacts : Hid (SliceAt Rep.actv W S C.aA C.ac acts)) (han : Hid (C.an = acts.length)) (hsum : Disk.wsum acts ≤ 549755813888) (ht : t.length ≤ maxLen) (hf : Hid (Disk.Fine s)) {k : Nat} (hk : Hid (Disk.Small k s)) (hkb : k ≤ 274877906944) :
    Calls Try.prog 50 #[.slice A m c, .pointer (some ⟨o, 0, none⟩), .pointer (some ⟨rB, 0, none⟩), .pointer (some ⟨cB, 0, none⟩), .pointer (some ⟨xB, 0, none⟩)] W fun e w' =>
      e = .returned (.int .i64 (Disk.St.runGo C.name.data.toList t acts s ⟨[], 0⟩ []).2.2.2) ∧ ∃ G Z bv av wv an, RS W w' G0 Z0 G Z (Value.slice A m c).ownBlock d (Disk.St.runGo C.name.data.toList t acts s ⟨[], 0⟩ []).1 t o dB tB (Disk.St.runGo C.name.data.toList t acts s ⟨[], 0⟩ []).2.1 x 1 (Disk.St.runGo C.name.data.toList t acts s ⟨[], 0⟩ []).2.2.1 bv av wv an true := by
  obtain ⟨R, hR⟩ : ∃ R, R = Disk.St.runGo C.name.data.toList t acts s ⟨[], 0⟩ [] := ⟨_, rfl⟩
  rw [← hR]
  have HR := Lib.hid hR
  clear hR
  obtain ⟨rb, hrb⟩ : ∃ rb, rb = (Value.slice A m c).ownBlock := ⟨_, rfl⟩
  rw [← hrb] at hrg hT ⊢
  have HRB := Lib.hid hrb
  clear hrb
  have HLD : Hid (∀ w', Only (fun b => G0 b ∨ Z0 b ∨ rb = some b) W w' → w'.cell? ⟨rB, 0, none⟩ = some (.pointer (some ⟨x, 0, none⟩)) ∧ w'.cell? ⟨xB, 0, none⟩ = some (.pointer (some ⟨d, 0, none⟩)) ∧ w'.heap[cB]? = some (.cells C.cells 41 (0, 0)) ∧ SliceAt Rep.actv w' S C.aA C.ac acts) := Lib.hid fun w' ho => by
    have hs : ∀ b, (S b ∨ b = rB ∨ b = cB ∨ b = xB) → w'.heap[b]? = W.heap[b]? := fun b hb => ho.block b (hT.out b hb).1 (hT.out b hb).2
    exact ⟨Boxed.cell ((hs rB (.inr (.inl rfl))).trans h2.out), Boxed.cell ((hs xB (.inr (.inr (.inr rfl)))).trans h4.out), (hs cB (.inr (.inr (.inl rfl)))).trans h3.out, hacts.out.keep (fun _ h => h) fun b hb => hs b (.inl hb)⟩
  have HS0 : Hid (RS W W G0 Z0 G0 Z0 rb d s t o dB tB ⟨[], 0⟩ x 0 [] bv av wv [] true) := Lib.hid ⟨HO.out, HX.out, fun _ h => .inl h, fun _ h => .inl h, hap.out, Only.refl _ _⟩
  have HS1 : Hid (RS W (W.setCell ⟨x, 0, none⟩ (.int .i64 1)) G0 Z0 G0 Z0 rb d s t o dB tB ⟨[], 0⟩ x 1 [] bv av wv [] true) := Lib.hid (HS0.out.rec_ (HX.out.setCalls 1) (Only.setCell (Only.refl _ _) (.inl HX.out.zx) _) fun _ h => .inl h)
  have c2 := h2.out.cell
  have x0 : W.cell? ⟨x, 0, none⟩ = some (.int .i64 0) := HX.out.cell 0
  have xf := HX.out.free
  obtain ⟨W1, hW1⟩ : ∃ W1, W1 = W.setCell ⟨x, 0, none⟩ (.int .i64 1) := ⟨_, rfl⟩
  rw [← hW1] at HS1
  have HROW1 : Hid (Own Rep.byte 5 W1 base nob (.slice A m c) bb) := Lib.hid (by rw [hW1]; exact hrow.out.only (Only.setCell (Only.refl (fun b => b = x) W) (.inl rfl) _) fun b hb e => (hrg.out b (HRB.out.trans hb)).2 (e ▸ HX.out.zx))
  go_enter Try.func50, Try.ntmps50
  go_upto_region 2 with fail
  rw [← hW1]
  clear hW1 x0 xf c2
  go_cut [] from 15 (fun wc => ∃ A' c', Hid (RS W wc G0 Z0 G0 Z0 rb d s t o dB tB ⟨[], 0⟩ x 1 [] (.slice A' m c') av wv [] true) ∧ Hid (Own Rep.byte 5 wc base nob (.slice A m c) bb))
  case first =>
    have HCP : Hid (∀ u, Below W1.heap.size W1 u → Calls Try.prog 51 #[.slice A m c] u fun e w' => ∃ A' c', e = .returned (.slice A' m c') ∧ m ≤ c' ∧ c' ≤ 9223372036854775807 ∧ Hid (Own Rep.byte 5 w' u.heap.size nob (.slice A' m c') bb) ∧ Hid (Below u.heap.size u w')) := Lib.hid fun u hu => by
      obtain ⟨A2, c2, he, hs⟩ := (HROW1.out.far hu).slice
      simp only [Value.slice.injEq] at he
      obtain ⟨rfl, -, rfl⟩ := he
      exact copyB30 A m c bb u _ hm.out hs (by omega)
    have HL0 := Lib.hid (HLD.out W1.drew (HS1.out.far ((Below.refl _ _).drew)).only)
    refine wp_region_held_drew (S := fun u => u.cell? ⟨rB, 0, none⟩ = some (.pointer (some ⟨x, 0, none⟩))) (by kernel_rfl) HL0.out.1 (fun hHeld => ?_)
    refine wpAnyH_take (i := 0) (v := ?_) rfl (by kernel_rfl) (by kernel_rfl) (by kernel_rfl) (fun _ _ _ h => h) (Or.inl ⟨by rfl, ?_⟩) (by assumption) ?_
    rotate_left 1
    · (intro w hSw; (try dsimp only at hSw); (try simp only [List.getElem_toArray, List.getElem_cons_succ, List.getElem_cons_zero]); go_simp <;> (try with_reducible rfl))
    try simp only [Act.put, List.getElem_toArray, List.getElem_cons_succ, List.getElem_cons_zero, List.setIfInBounds_toArray, List.set_cons_zero, List.set_cons_succ]
    refine wpAnyH_take (i := 1) (v := ?_) rfl (by kernel_rfl) (by kernel_rfl) (by kernel_rfl) (fun _ _ _ h => h) (Or.inl ⟨by rfl, ?_⟩) (by assumption) ?_
    rotate_left 1
    · (intro w hSw; (try dsimp only at hSw); (try simp only [List.getElem_toArray, List.getElem_cons_succ, List.getElem_cons_zero]); go_simp <;> (try with_reducible rfl))
    try simp only [Act.put, List.getElem_toArray, List.getElem_cons_succ, List.getElem_cons_zero, List.setIfInBounds_toArray, List.set_cons_zero, List.set_cons_succ]
    refine wpAnyH_ready (rs := [2]) (by kernel_rfl) (by simp) ?_
    refine AllReadyH.cons rfl (fun K hK => ?_) AllReadyH.nil
    go_simp
    refine (HCP.out W1.drew ((Below.refl _ _).drew)).mono ?_
    rintro e w2 ⟨A', c', rfl, hc1, hc2, ho2, hb2⟩
    have HB2 := Lib.hid (((Below.refl _ W1).drew).trans (hb2.out.mono (Nat.le_refl _)))
    have HS2 := Lib.hid (HS1.out.far HB2.out)
    have HL2 := Lib.hid (HLD.out w2 HS2.out.only)
    have y1 : w2.cell? ⟨x, 1, none⟩ = some bv := HS2.out.rc.cell 1
    have yf := HS2.out.rc.free
    obtain ⟨A9, n9, c9, hbv⟩ := HS2.out.rc.bone
    go_wp2_with fail
    refine hK.out _ _ HL2.out.1 (fun hHeld => ?_)
    clear hK K
    try simp only [Act.put, List.getElem_toArray, List.getElem_cons_succ, List.getElem_cons_zero, List.setIfInBounds_toArray, List.set_cons_zero, List.set_cons_succ]
    refine wpAnyH_take (i := 3) (v := ?_) rfl (by kernel_rfl) (by kernel_rfl) (by kernel_rfl) (fun _ _ _ h => h) (Or.inl ⟨by rfl, ?_⟩) (by assumption) ?_
    rotate_left 1
    · (intro w hSw; (try dsimp only at hSw); (try simp only [List.getElem_toArray, List.getElem_cons_succ, List.getElem_cons_zero]); go_simp <;> (try with_reducible rfl))
    try simp only [Act.put, List.getElem_toArray, List.getElem_cons_succ, List.getElem_cons_zero, List.setIfInBounds_toArray, List.set_cons_zero, List.set_cons_succ]
    refine wpAnyH_take (i := 4) (v := ?_) rfl (by kernel_rfl) (by kernel_rfl) (by kernel_rfl) (fun _ _ _ h => h) (Or.inl ⟨by rfl, ?_⟩) (by assumption) ?_
    rotate_left 1
    · (intro w hSw; (try dsimp only at hSw); (try simp only [List.getElem_toArray, List.getElem_cons_succ, List.getElem_cons_zero]); go_simp <;> (try with_reducible rfl))
    try simp only [Act.put, List.getElem_toArray, List.getElem_cons_succ, List.getElem_cons_zero, List.setIfInBounds_toArray, List.set_cons_zero, List.set_cons_succ]
    refine wpAnyH_ready (rs := [5]) (by kernel_rfl) (by simp) ?_
    refine AllReadyH.cons rfl (fun K hK => ?_) AllReadyH.nil
    have HS3 : Hid (RS W (w2.setCell ⟨x, 1, none⟩ (.slice A' m c')) G0 Z0 G0 Z0 rb d s t o dB tB ⟨[], 0⟩ x 1 [] (.slice A' m c') av wv [] true) := Lib.hid (HS2.out.rec_ (HS2.out.rc.setBytes A' m c') (Only.setCell (Only.refl _ _) (.inl HS2.out.rc.zx) _) fun _ h => .inl h)
    have HL3 := Lib.hid (HLD.out _ HS3.out.only)
    have HROW3 : Hid (Own Rep.byte 5 (w2.setCell ⟨x, 1, none⟩ (.slice A' m c')) base nob (.slice A m c) bb) := Lib.hid ((HROW1.out.far HB2.out).only (Only.setCell (Only.refl (fun b => b = x) w2) (.inl rfl) _) fun b hb e => (hrg.out b (HRB.out.trans hb)).2 (e ▸ HX.out.zx))
    go_simp
    refine hK.out _ _ HL3.out.1 (fun hHeld => ?_)
    clear hK K
    try simp only [Act.put, List.getElem_toArray, List.getElem_cons_succ, List.getElem_cons_zero, List.setIfInBounds_toArray, List.set_cons_zero, List.set_cons_succ]
    refine wpAnyH_done (by kernel_rfl) ?_ _
    go_wp2_with fail
    go_meet
    case rel => exact ⟨A', c', HS3, HROW3⟩
  case rest =>
    obtain ⟨A', c', HS2, HROW2⟩ := hcut
    clear HROW1 HS1 HS0
    obtain ⟨q, hq⟩ : ∃ q, q = Value.slice A' m c' := ⟨_, rfl⟩
    rw [← hq] at HS2
    clear hq
    go_wp2_with fail
    go_loopg [8] m (fun k' iv wr => ∃ (i : Nat) (bb' : List UInt8), i ≤ m ∧ iv = .int .i64 i ∧ k' = m - i ∧ bb'.length = m ∧ Hid (RS W wr G0 Z0 G0 Z0 rb d s t o dB tB ⟨[], 0⟩ x 1 [] q av wv [] true) ∧ Hid (Own Rep.byte 5 wr base nob (.slice A m c) bb'))
    case atStart => exact ⟨0, bb, Nat.zero_le _, rfl, rfl, hm.out.symm, HS2, HROW2⟩
    case round =>
      obtain ⟨i, bb', hi, rfl, rfl, hbl, HS3, HROW3⟩ := hrel
      by_cases hin : i < m
      · obtain ⟨g, c8, u, he, -, hgl, hcell, hfr, hu, hput⟩ := HROW3.out.cellAt rfl (k := i) (by omega)
        simp only [Value.slice.injEq] at he
        obtain ⟨rfl, -, rfl⟩ := he
        simp only [Rep.byte, List.cons.injEq, and_true] at hu
        generalize bb'[i]'(by omega) = z at hu
        rw [hu] at hcell
        have HPUT := Lib.hid hput
        have HBL := Lib.hid hbl
        have HGB : Hid (rb = some g) := Lib.hid HRB.out
        have hii : i ≤ 9223372036854775807 := by omega
        clear hput hu hbl
        go_wp2_with fail
        obtain ⟨y, hy⟩ := u8_bits .xor z.toNat 85
        go_roundg (m - (i + 1))
        case measure => omega
        case rel =>
          refine ⟨i + 1, bb'.set i y, by omega, by go_num, rfl, by rw [List.length_set]; exact HBL.out, Lib.hid (HS3.out.else_ (Only.setCell (Only.refl (fun b => b = g) _) (.inl rfl) _) ?_), Lib.hid ?_⟩
          · rintro b rfl
            exact ⟨fun hg => (hrg.out _ HGB.out).1 hg, fun hz => (hrg.out _ HGB.out).2 hz, .inl HGB.out⟩
          · rw [hy]
            exact HPUT.out _ _ rfl
      · obtain rfl : i = m := by omega
        clear hin
        have hnc : C.an ≤ C.ac := by rw [han.out]; exact hacts.out.len
        have hcm := hacts.out.max
        obtain ⟨n, hn⟩ : ∃ n, n = C.an := ⟨_, rfl⟩
        rw [← hn] at hnc
        have HNA : Hid (n = acts.length) := Lib.hid (hn.trans han.out)
        have HCN := Lib.hid hn
        have HI0 : Hid (RunInv W wr G0 Z0 rb d t o dB tB x C.name.data.toList acts k R 0) := Lib.hid ⟨s, ⟨[], 0⟩, [], G0, Z0, q, av, wv, [], HS3.out, HR.out, hf.out, hk.out, Nat.zero_le _, Nat.zero_le _, Nat.zero_le _⟩
        clear hn HS3 HROW3 hbl
        have hsum2 := hsum
        go_wp2_with fail
        go_loopg [9] n (fun k' iv wr => ∃ (i : Nat), i ≤ n ∧ iv = .int .i64 i ∧ k' = n - i ∧ Hid (RunInv W wr G0 Z0 rb d t o dB tB x C.name.data.toList acts k R i))
        case atStart => exact ⟨0, Nat.zero_le _, rfl, rfl, HI0⟩
        case round =>
          obtain ⟨j, hj, rfl, rfl, HI⟩ := hrel
          obtain ⟨s1, ou, whole, G, Z, bv1, av1, wv1, an, hrs, hR1, hf1, hk1, hb1, hb2, hb3⟩ := HI.out
          have HRS := Lib.hid hrs
          have HR1 := Lib.hid hR1
          have HF1 := Lib.hid hf1
          have HK1 := Lib.hid hk1
          clear HI hrs hR1 hf1 hk1
          obtain ⟨l2, l4, l3, la⟩ := HLD.out _ HRS.out.only
          have c4 : wr.cell? ⟨cB, 4, none⟩ = some (.slice C.aA n C.ac) := by rw [HCN.out]; exact (cell_of_row wr cB 4 _ _ (0, 0) l3).trans rfl
          by_cases hjn : j < n
          · have hjl : j < acts.length := by rw [← HNA.out]; exact hjn
            obtain ⟨g, o2, pA, pc, hA, hSg, hcs, hps, hnl, hwk, hwe⟩ := act_at la hjl
            have hws := Disk.wsum_take hjl
            have hwle := Disk.wsum_le acts (j + 1)
            obtain ⟨a, ha⟩ : ∃ a, a = acts[j] := ⟨_, rfl⟩
            rw [← ha] at hcs hps hnl hwk hwe hws
            rw [hA] at c4
            have HAJ := Lib.hid ha
            have e0 : wr.cell? ⟨g, o2 + j * 4, none⟩ = some (.int .i64 a.kind) := hcs 0 _ rfl
            have e1 : wr.cell? ⟨g, o2 + j * 4 + 1, none⟩ = some (.slice pA a.parts.length pc) := hcs 1 _ rfl
            have e2 : wr.cell? ⟨g, o2 + j * 4 + 2, none⟩ = some (sv a.name) := hcs 2 _ rfl
            have e3 : wr.cell? ⟨g, o2 + j * 4 + 3, none⟩ = some (.int .i64 a.err) := hcs 3 _ rfl
            unfold sv at e2
            have HPS := Lib.hid hps
            have hjj : j ≤ 9223372036854775807 := by omega
            clear ha hcs hps l3 la hA
            obtain ⟨kd, hkd⟩ : ∃ kd, kd = a.kind := ⟨_, rfl⟩
            rw [← hkd] at e0
            have HKD := Lib.hid hkd
            clear hkd
            have hba : Below wr.heap.size wr (wr.alloc (.cells #[.int .i64 kd, .slice pA a.parts.length pc, .string ⟨a.name.toArray⟩, .int .i64 a.err] 83)) := Below.alloc (Below.refl _ _) (Nat.le_refl _) _
            have HRB1 := Lib.hid (HRS.out.far hba)
            have HBX : Hid ((wr.alloc (.cells #[.int .i64 kd, .slice pA a.parts.length pc, .string ⟨a.name.toArray⟩, .int .i64 a.err] 83)).heap[wr.heap.size]? = some (.cells #[.int .i64 kd, .slice pA a.parts.length pc, .string ⟨a.name.toArray⟩, .int .i64 a.err] 83 (0, 0))) := Lib.hid (World.alloc_heap_new wr _)
            obtain ⟨Wb, hWb⟩ : ∃ Wb, Wb = wr.alloc (.cells #[.int .i64 kd, .slice pA a.parts.length pc, .string ⟨a.name.toArray⟩, .int .i64 a.err] 83) := ⟨_, rfl⟩
            rw [← hWb] at HRB1 HBX
            obtain ⟨aB, haB⟩ : ∃ aB, aB = wr.heap.size := ⟨_, rfl⟩
            rw [← haB] at HBX
            have HAB : Hid (aB < Wb.heap.size ∧ W.heap.size ≤ aB) := Lib.hid ⟨by rw [haB, hWb]; simp, by rw [haB]; exact HRS.out.only.size⟩
            have HABG : Hid (¬ G aB ∧ ¬ Z aB) := Lib.hid ⟨fun h => by have := HRS.out.out.lt _ h; omega, fun h => by have := HRS.out.rc.lt _ h; omega⟩
            obtain ⟨st, hst⟩ : ∃ st, st = s1.actStep C.name.data.toList t ou whole a := ⟨_, rfl⟩
            have HST := Lib.hid hst
            have b0 : Wb.cell? ⟨aB, 0, none⟩ = some (.int .i64 kd) := (cell_of_row Wb aB 0 _ _ (0, 0) HBX.out).trans rfl
            have b1 : Wb.cell? ⟨aB, 1, none⟩ = some (.slice pA a.parts.length pc) := (cell_of_row Wb aB 1 _ _ (0, 0) HBX.out).trans rfl
            have b2 : Wb.cell? ⟨aB, 2, none⟩ = some (.string ⟨a.name.toArray⟩) := (cell_of_row Wb aB 2 _ _ (0, 0) HBX.out).trans rfl
            have b3 : Wb.cell? ⟨aB, 3, none⟩ = some (.int .i64 a.err) := (cell_of_row Wb aB 3 _ _ (0, 0) HBX.out).trans rfl
            have HWB := Lib.hid hWb
            have HAB2 := Lib.hid haB
            clear hst hba hWb haB
            go_upto_region 12 with fail
            rw [← HWB.out, ← HAB2.out]
            clear e0 e1 e2 e3 c4
            go_cut [54] from 41 to 166 (fun v54 wc => v54 = .int .i64 kd ∧ Hid (wc = Wb))
            case first =>
              go_wp2_with fail
              go_meet
              case rel => exact ⟨rfl, Lib.hid rfl⟩
            case rest =>
              obtain ⟨rfl, HWC⟩ := hcut
              rw [HWC.out]
              clear HWC
              go_step
              go_cut [11] from 41 to 166 (fun v11 wc => (∃ q, v11 = .int .i64 q) ∧ Hid (st.2.2.2 = none) ∧ Hid (∃ G Z bv av wv an, RS W wc G0 Z0 G Z rb d st.1 t o dB tB st.2.1 x 1 st.2.2.1 bv av wv an true ∧ an.length ≤ j))
              case first =>
                by_cases k0 : kd = 0
                · subst k0
                  have K0 : Hid (a.kind = 0) := Lib.hid HKD.out.symm
                  obtain ⟨n2, hn2⟩ : ∃ n2, n2 = a.parts.length := ⟨_, rfl⟩
                  rw [← hn2] at b1
                  have HN2 := Lib.hid hn2
                  have HBX2 := HBX
                  rw [← hn2] at HBX2
                  have HWT := Lib.hid (Disk.weight_le hjl HAJ.out.symm)
                  have HPP : Hid (a.parts.length + 2 ≤ a.weight ∧ a.parts.flatten.length ≤ a.weight ∧ ∀ p ∈ a.parts, p.length ≤ a.weight) := Lib.hid ⟨by unfold Disk.ActV.weight; omega, by unfold Disk.ActV.weight; omega, fun p hp => by have := Disk.part_le hp; unfold Disk.ActV.weight; omega⟩
                  have hn2b : n2 ≤ 549755813888 := by have := HWT.out; have := HPP.out.1; have := HN2.out; omega
                  have HSS : Hid (∀ b, S b → b < wr.heap.size ∧ ¬ G b) := Lib.hid fun b hb => ⟨Nat.lt_of_lt_of_le (hT.out b (.inl hb)).1 HRS.out.only.size, fun hg => (HRS.out.gs b hg).elim (fun h => (hT.out b (.inl hb)).2 (.inl h)) fun h => by have := (hT.out b (.inl hb)).1; omega⟩
                  have HBB : Hid (Below wr.heap.size wr Wb) := Lib.hid (by rw [HWB.out]; exact Below.alloc (Below.refl _ _) (Nat.le_refl _) _)
                  have HPW : Hid (SliceAt Rep.byte.slice Wb S pA pc a.parts) := Lib.hid (HPS.out.keep (fun _ h => h) (Same.of_below HBB.out fun b hb => (HSS.out b hb).1))
                  have HWR := Lib.hid (wideRows_any (w := Wb) pA n2 pc a.parts S HN2 HPW (Lib.hid fun b hb => Nat.lt_of_lt_of_le (HSS.out b hb).1 HBB.out.size) (by omega) (Lib.hid fun p hp => by have := HPP.out.2.2 p hp; have := HWT.out; omega))
                  have HSTV : Hid (st = ((s1.ouWrite t ou a.parts.flatten).1, (s1.ouWrite t ou a.parts.flatten).2.1, whole ++ a.parts.flatten, none)) := Lib.hid (by rw [HST.out]; unfold Disk.St.actStep; rw [if_pos K0.out])
                  have HBL : Hid (ou.held.length + a.parts.flatten.length ≤ 549755813888 ∧ whole.length + a.parts.flatten.length ≤ 549755813888) := Lib.hid (by have := HPP.out.2.1; have := HWT.out; omega)
                  clear hn2
                  go_wp2_with fail
                  refine HWR.out.mono ?_
                  rintro e w2 ⟨g2, rs, rfl, HW2, HB2⟩
                  have HRS2 := Lib.hid (HRB1.out.far HB2.out)
                  have HWV := Lib.hid (write_any (w := w2) (Lib.hid HRS2.out.out) HF1 HK1 (by omega) ht (some ⟨g2, 0, none⟩) n2 (n2 + 64) a.parts _ HN2 (Lib.hid (HW2.out.slice HN2.out)) (Lib.hid fun b hb => ⟨hb.2, fun hg => by have := HRB1.out.out.lt b hg; have := hb.1; omega⟩) (by have := HBL.out; omega))
                  go_wp2_with fail
                  refine HWV.out.mono ?_
                  rintro e w3 hc
                  have HO3 := Lib.hid hc.2.2
                  obtain ⟨he3, hrs3⟩ := HRS2.out.out_ hc
                  obtain ⟨q3, hq3⟩ : ∃ q, q = (s1.ouWrite t ou a.parts.flatten).2.2 := ⟨_, rfl⟩
                  rw [← hq3] at he3
                  subst he3
                  have HRS3 := Lib.hid hrs3
                  obtain ⟨G3, hG3⟩ : ∃ G3, G3 = grow G w2 w3 := ⟨_, rfl⟩
                  rw [← hG3] at HRS3
                  have HGO : Hid (∀ b, Wb.heap.size ≤ b → b < w2.heap.size → ¬ G b) := Lib.hid fun b h1 h2 hg => by have := HRB1.out.out.lt b hg; omega
                  have HGB : Hid (∀ b, Wb.heap.size ≤ b → b < w2.heap.size → ¬ G3 b) := Lib.hid fun b h1 h2 hg => by
                    rw [hG3] at hg
                    rcases hg with hg | hg
                    · exact HGO.out b h1 h2 hg
                    · have := hg.1; omega
                  have HZB : Hid (∀ b, Wb.heap.size ≤ b → b < w2.heap.size → ¬ Z b) := Lib.hid fun b h1 h2 hg => by have := HRB1.out.rc.lt b hg; omega
                  have HWX3 : Hid (WX w3 Wb.heap.size w2.heap.size g2 a.parts (fun i => ((rs[i]?).getD (0, 0, [])).1) 0) := Lib.hid ((HW2.out.wx HN2.out).only HO3.out HGO.out (Nat.le_refl _))
                  have HWI : Hid (Wides w3 Wb.heap.size g2 n2 a.parts rs (n2 + 64)) := Lib.hid (HW2.out.only HO3.out HGO.out)
                  have HSZ : Hid (w2.heap.size ≤ w3.heap.size ∧ W.heap.size ≤ Wb.heap.size) := Lib.hid ⟨HO3.out.size, Nat.le_trans HRS.out.only.size HBB.out.size⟩
                  obtain ⟨blk, hblk⟩ : ∃ blk : Nat → Nat, blk = fun i => ((rs[i]?).getD (0, 0, [])).1 := ⟨_, rfl⟩
                  rw [← hblk] at HWX3
                  obtain ⟨hiB, hhi⟩ : ∃ hiB, hiB = w2.heap.size := ⟨_, rfl⟩
                  obtain ⟨loB, hlo⟩ : ∃ loB, loB = Wb.heap.size := ⟨_, rfl⟩
                  have HAB3 : Hid (Only G Wb w3) := Lib.hid ((Only.of_below HB2.out G).trans HO3.out fun _ hb => .inl hb)
                  have HK16 : Hid (∀ u, Below w3.heap.size w3 u → u.cell? ⟨rB, 0, none⟩ = some (.pointer (some ⟨x, 0, none⟩)) ∧ u.cell? ⟨x, 4, none⟩ = some (.bool true) ∧ u.cell? ⟨aB, 1, none⟩ = some (.slice pA n2 pc)) := Lib.hid fun u hu => by
                    have ha := ((HAB3.out.trans (Only.of_below hu G) fun _ hb => .inl hb).block aB HAB.out.1 HABG.out.1).trans HBX2.out
                    have hr := HRS3.out.far hu
                    exact ⟨(HLD.out u hr.only).1, hr.rc.cell 4, (cell_of_row u aB 1 _ _ (0, 0) ha).trans rfl⟩
                  have HEQ : Hid (∀ u, Below w3.heap.size w3 u → Calls Try.prog 53 #[.slice (some ⟨g2, 0, none⟩) n2 (n2 + 64), .slice pA n2 pc] u fun e w' => e = .returned (.bool true) ∧ Below u.heap.size u w') := Lib.hid fun u hu => by
                    have hr := HRS3.out.far hu
                    have hs1 := (HWI.out.far hu).slice HN2.out
                    have hs2 : SliceAt Rep.byte.slice u S pA pc a.parts := HPS.out.keep (fun _ h => h) fun b hb => by
                      have h1 := (hT.out b (.inl hb)).1
                      have h2 := (hT.out b (.inl hb)).2
                      exact (hr.only.block b h1 h2).trans (HRS.out.only.block b h1 h2).symm
                    exact eqRows_alike _ _ n2 (n2 + 64) pc a.parts u _ S HN2 (Lib.hid hs1) (Lib.hid hs2) (Lib.hid fun b hb => hb.2) (Lib.hid fun b hb => Nat.lt_of_lt_of_le (hT.out b (.inl hb)).1 hr.only.size)
                  have HSP : Hid (∀ u, Below w3.heap.size w3 u → Calls Try.prog 54 #[.slice (some ⟨g2, 0, none⟩) n2 (n2 + 64)] u fun e w' => e = .returned (.bool true) ∧ Below u.heap.size u w') := Lib.hid fun u hu => spareRows_any (Lib.hid (HWI.out.far hu)) HN2 (by omega) (Lib.hid fun p hp => by have := HPP.out.2.2 p hp; have := HWT.out; omega)
                  clear hc hrs3 hq3 hG3 hblk b0 b1 b2 b3
                  go_upto_region 16 with fail
                  have HD0 : Hid (Below w3.heap.size w3 w3.drew) := Lib.hid ((Below.refl _ _).drew)
                  refine wp_region_held_drew (S := fun u => u.cell? ⟨rB, 0, none⟩ = some (.pointer (some ⟨x, 0, none⟩)) ∧ u.cell? ⟨x, 4, none⟩ = some (.bool true) ∧ u.cell? ⟨aB, 1, none⟩ = some (.slice pA n2 pc)) (by kernel_rfl) (HK16.out _ HD0.out) (fun hHeld => ?_)
                  refine wpAnyH_take (i := 0) (v := ?_) rfl (by kernel_rfl) (by kernel_rfl) (by kernel_rfl) (fun _ _ _ h => h) (Or.inl ⟨by rfl, ?_⟩) (by assumption) ?_
                  rotate_left 1
                  · (intro w hSw; (try dsimp only at hSw); (try simp only [List.getElem_toArray, List.getElem_cons_succ, List.getElem_cons_zero]); go_simp <;> (try with_reducible rfl))
                  try simp only [Act.put, List.getElem_toArray, List.getElem_cons_succ, List.getElem_cons_zero, List.setIfInBounds_toArray, List.set_cons_zero, List.set_cons_succ]
                  refine wpAnyH_take (i := 1) (v := ?_) rfl (by kernel_rfl) (by kernel_rfl) (by kernel_rfl) (fun _ _ _ h => h) (Or.inl ⟨by rfl, ?_⟩) (by assumption) ?_
                  rotate_left 1
                  · (intro w hSw; (try dsimp only at hSw); (try simp only [List.getElem_toArray, List.getElem_cons_succ, List.getElem_cons_zero]); go_simp <;> (try with_reducible rfl))
                  try simp only [Act.put, List.getElem_toArray, List.getElem_cons_succ, List.getElem_cons_zero, List.setIfInBounds_toArray, List.set_cons_zero, List.set_cons_succ]
                  refine wpAnyH_take (i := 2) (v := ?_) rfl (by kernel_rfl) (by kernel_rfl) (by kernel_rfl) (fun _ _ _ h => h) (Or.inl ⟨by rfl, ?_⟩) (by assumption) ?_
                  rotate_left 1
                  · (intro w hSw; (try dsimp only at hSw); (try simp only [List.getElem_toArray, List.getElem_cons_succ, List.getElem_cons_zero]); go_simp <;> (try with_reducible rfl))
                  try simp only [Act.put, List.getElem_toArray, List.getElem_cons_succ, List.getElem_cons_zero, List.setIfInBounds_toArray, List.set_cons_zero, List.set_cons_succ]
                  refine wpAnyH_take (i := 3) (v := ?_) rfl (by kernel_rfl) (by kernel_rfl) (by kernel_rfl) (fun _ _ _ h => h) (Or.inl ⟨by rfl, ?_⟩) (by assumption) ?_
                  rotate_left 1
                  · (intro w hSw; (try dsimp only at hSw); (try simp only [List.getElem_toArray, List.getElem_cons_succ, List.getElem_cons_zero]); go_simp <;> (try with_reducible rfl))
                  try simp only [Act.put, List.getElem_toArray, List.getElem_cons_succ, List.getElem_cons_zero, List.setIfInBounds_toArray, List.set_cons_zero, List.set_cons_succ]
                  refine wpAnyH_take (i := 4) (v := ?_) rfl (by kernel_rfl) (by kernel_rfl) (by kernel_rfl) (fun _ _ _ h => h) (Or.inl ⟨by rfl, ?_⟩) (by assumption) ?_
                  rotate_left 1
                  · (intro w hSw; (try dsimp only at hSw); (try simp only [List.getElem_toArray, List.getElem_cons_succ, List.getElem_cons_zero]); go_simp <;> (try with_reducible rfl))
                  try simp only [Act.put, List.getElem_toArray, List.getElem_cons_succ, List.getElem_cons_zero, List.setIfInBounds_toArray, List.set_cons_zero, List.set_cons_succ]
                  refine wpAnyH_take (i := 5) (v := ?_) rfl (by kernel_rfl) (by kernel_rfl) (by kernel_rfl) (fun _ _ _ h => h) (Or.inl ⟨by rfl, ?_⟩) (by assumption) ?_
                  rotate_left 1
                  · (intro w hSw; (try dsimp only at hSw); (try simp only [List.getElem_toArray, List.getElem_cons_succ, List.getElem_cons_zero]); go_simp <;> (try with_reducible rfl))
                  try simp only [Act.put, List.getElem_toArray, List.getElem_cons_succ, List.getElem_cons_zero, List.setIfInBounds_toArray, List.set_cons_zero, List.set_cons_succ]
                  refine wpAnyH_take (i := 6) (v := ?_) rfl (by kernel_rfl) (by kernel_rfl) (by kernel_rfl) (fun _ _ _ h => h) (Or.inl ⟨by rfl, ?_⟩) (by assumption) ?_
                  rotate_left 1
                  · (intro w hSw; (try dsimp only at hSw); (try simp only [List.getElem_toArray, List.getElem_cons_succ, List.getElem_cons_zero]); go_simp <;> (try with_reducible rfl))
                  try simp only [Act.put, List.getElem_toArray, List.getElem_cons_succ, List.getElem_cons_zero, List.setIfInBounds_toArray, List.set_cons_zero, List.set_cons_succ]
                  refine wpAnyH_take (i := 7) (v := ?_) rfl (by kernel_rfl) (by kernel_rfl) (by kernel_rfl) (fun _ _ _ h => h) (Or.inl ⟨by rfl, ?_⟩) (by assumption) ?_
                  rotate_left 1
                  · (intro w hSw; (try dsimp only at hSw); (try simp only [List.getElem_toArray, List.getElem_cons_succ, List.getElem_cons_zero]); go_simp <;> (try with_reducible rfl))
                  try simp only [Act.put, List.getElem_toArray, List.getElem_cons_succ, List.getElem_cons_zero, List.setIfInBounds_toArray, List.set_cons_zero, List.set_cons_succ]
                  refine wpAnyH_take (i := 8) (v := ?_) rfl (by kernel_rfl) (by kernel_rfl) (by kernel_rfl) (fun _ _ _ h => h) (Or.inl ⟨by rfl, ?_⟩) (by assumption) ?_
                  rotate_left 1
                  · (intro w hSw; (try dsimp only at hSw); (try simp only [List.getElem_toArray, List.getElem_cons_succ, List.getElem_cons_zero]); go_simp <;> (try with_reducible rfl))
                  try simp only [Act.put, List.getElem_toArray, List.getElem_cons_succ, List.getElem_cons_zero, List.setIfInBounds_toArray, List.set_cons_zero, List.set_cons_succ]
                  refine wpAnyH_ready (rs := [9]) (by kernel_rfl) (by simp) ?_
                  refine AllReadyH.cons rfl (fun K hK => ?_) AllReadyH.nil
                  go_simp
                  refine (HEQ.out w3.drew HD0.out).mono ?_
                  rintro e w4 ⟨rfl, hb4⟩
                  have HB4 : Hid (Below w3.heap.size w3 w4) := Lib.hid (HD0.out.trans (hb4.mono HD0.out.size))
                  clear hb4
                  go_wp2_with fail
                  refine hK.out _ _ (HK16.out _ HB4.out) (fun hHeld => ?_)
                  clear hK K
                  try simp only [Act.put, List.getElem_toArray, List.getElem_cons_succ, List.getElem_cons_zero, List.setIfInBounds_toArray, List.set_cons_zero, List.set_cons_succ]
                  refine wpAnyH_take (i := 10) (v := ?_) rfl (by kernel_rfl) (by kernel_rfl) (by kernel_rfl) (fun _ _ _ h => h) (Or.inl ⟨by rfl, ?_⟩) (by assumption) ?_
                  rotate_left 1
                  · (intro w hSw; (try dsimp only at hSw); (try simp only [List.getElem_toArray, List.getElem_cons_succ, List.getElem_cons_zero]); go_simp <;> (try with_reducible rfl))
                  try simp only [Act.put, List.getElem_toArray, List.getElem_cons_succ, List.getElem_cons_zero, List.setIfInBounds_toArray, List.set_cons_zero, List.set_cons_succ]
                  refine wpAnyH_take (i := 11) (v := ?_) rfl (by kernel_rfl) (by kernel_rfl) (by kernel_rfl) (fun _ _ _ h => h) (Or.inl ⟨by rfl, ?_⟩) (by assumption) ?_
                  rotate_left 1
                  · (intro w hSw; (try dsimp only at hSw); (try simp only [List.getElem_toArray, List.getElem_cons_succ, List.getElem_cons_zero]); go_simp <;> (try with_reducible rfl))
                  try simp only [Act.put, List.getElem_toArray, List.getElem_cons_succ, List.getElem_cons_zero, List.setIfInBounds_toArray, List.set_cons_zero, List.set_cons_succ]
                  refine wpAnyH_take (i := 12) (v := ?_) rfl (by kernel_rfl) (by kernel_rfl) (by kernel_rfl) (fun _ _ _ h => h) (Or.inl ⟨by rfl, ?_⟩) (by assumption) ?_
                  rotate_left 1
                  · (intro w hSw; (try dsimp only at hSw); (try simp only [List.getElem_toArray, List.getElem_cons_succ, List.getElem_cons_zero]); go_simp <;> (try with_reducible rfl))
                  try simp only [Act.put, List.getElem_toArray, List.getElem_cons_succ, List.getElem_cons_zero, List.setIfInBounds_toArray, List.set_cons_zero, List.set_cons_succ]
                  refine wpAnyH_ready (rs := [13]) (by kernel_rfl) (by simp) ?_
                  refine AllReadyH.cons rfl (fun K hK => ?_) AllReadyH.nil
                  go_simp
                  refine (HSP.out w4 HB4.out).mono ?_
                  rintro e w5 ⟨rfl, hb5⟩
                  have HB5 : Hid (Below w3.heap.size w3 w5) := Lib.hid (HB4.out.trans (hb5.mono HB4.out.size))
                  clear hb5
                  go_wp2_with fail
                  refine hK.out _ _ (HK16.out _ HB5.out) (fun hHeld => ?_)
                  clear hK K
                  try simp only [Act.put, List.getElem_toArray, List.getElem_cons_succ, List.getElem_cons_zero, List.setIfInBounds_toArray, List.set_cons_zero, List.set_cons_succ]
                  refine wpAnyH_take (i := 14) (v := ?_) rfl (by kernel_rfl) (by kernel_rfl) (by kernel_rfl) (fun _ _ _ h => h) (Or.inl ⟨by rfl, ?_⟩) (by assumption) ?_
                  rotate_left 1
                  · (intro w hSw; (try dsimp only at hSw); (try simp only [List.getElem_toArray, List.getElem_cons_succ, List.getElem_cons_zero]); go_simp <;> (try with_reducible rfl))
                  try simp only [Act.put, List.getElem_toArray, List.getElem_cons_succ, List.getElem_cons_zero, List.setIfInBounds_toArray, List.set_cons_zero, List.set_cons_succ]
                  refine wpAnyH_take (i := 15) (v := ?_) rfl (by kernel_rfl) (by kernel_rfl) (by kernel_rfl) (fun _ _ _ h => h) (Or.inl ⟨by rfl, ?_⟩) (by assumption) ?_
                  rotate_left 1
                  · (intro w hSw; (try dsimp only at hSw); (try simp only [List.getElem_toArray, List.getElem_cons_succ, List.getElem_cons_zero]); go_simp <;> (try with_reducible rfl))
                  try simp only [Act.put, List.getElem_toArray, List.getElem_cons_succ, List.getElem_cons_zero, List.setIfInBounds_toArray, List.set_cons_zero, List.set_cons_succ]
                  refine wpAnyH_take (i := 16) (v := ?_) rfl (by kernel_rfl) (by kernel_rfl) (by kernel_rfl) (fun _ _ _ h => h) (Or.inl ⟨by rfl, ?_⟩) (by assumption) ?_
                  rotate_left 1
                  · (intro w hSw; (try dsimp only at hSw); (try simp only [List.getElem_toArray, List.getElem_cons_succ, List.getElem_cons_zero]); go_simp <;> (try with_reducible rfl))
                  try simp only [Act.put, List.getElem_toArray, List.getElem_cons_succ, List.getElem_cons_zero, List.setIfInBounds_toArray, List.set_cons_zero, List.set_cons_succ]
                  refine wpAnyH_ready (rs := [17]) (by kernel_rfl) (by simp) ?_
                  refine AllReadyH.cons rfl (fun K hK => ?_) AllReadyH.nil
                  have HRS5 := Lib.hid (HRS3.out.far HB5.out)
                  have yc : w5.cell? ⟨x, 4, none⟩ = some (.bool true) := HRS5.out.rc.cell 4
                  have yf := HRS5.out.rc.free 4
                  have HOX : Hid (Only (fun b => b = x) w5 (w5.setCell ⟨x, 4, none⟩ (.bool true))) := Lib.hid (Only.setCell (Only.refl (fun b => b = x) w5) (.inl rfl) _)
                  have HRS6 := Lib.hid (HRS5.out.rec_ (HRS5.out.rc.setSpare true) (HOX.out.mono fun _ e => e ▸ HRS5.out.rc.zx) fun _ h => .inl h)
                  have HWX6 : Hid (WX (w5.setCell ⟨x, 4, none⟩ (.bool true)) loB hiB g2 a.parts blk 0) := Lib.hid (by rw [hlo, hhi]; exact (HWX3.out.far HB5.out HSZ.out.1).only HOX.out (fun b h1 h2 e => HZB.out b h1 h2 (e ▸ HRS5.out.rc.zx)) (Nat.le_trans HSZ.out.1 HB5.out.size))
                  have HSZ6 : Hid (hiB ≤ (w5.setCell ⟨x, 4, none⟩ (.bool true)).heap.size) := Lib.hid (by rw [hhi]; exact Nat.le_trans HSZ.out.1 (Nat.le_trans HB5.out.size HOX.out.size))
                  have HLB : Hid (W.heap.size ≤ loB) := Lib.hid (by rw [hlo]; exact HSZ.out.2)
                  rw [← hlo, ← hhi] at HGB HZB
                  have HS6 : Hid ((w5.setCell ⟨x, 4, none⟩ (.bool true)).cell? ⟨rB, 0, none⟩ = some (.pointer (some ⟨x, 0, none⟩)) ∧ (w5.setCell ⟨x, 4, none⟩ (.bool true)).cell? ⟨x, 4, none⟩ = some (.bool true) ∧ (w5.setCell ⟨x, 4, none⟩ (.bool true)).cell? ⟨aB, 1, none⟩ = some (.slice pA n2 pc)) := Lib.hid ⟨(HLD.out _ HRS6.out.only).1, HRS6.out.rc.cell 4, (show _ from by
                    have h1 := (HK16.out w5 HB5.out).2.2
                    rw [← h1]
                    exact World.cell?_setCell_far _ _ _ _ (fun e => HABG.out.2 (by have := HRS5.out.rc.zx; dsimp only at e; rw [← e]; exact this)))⟩
                  go_simp
                  refine hK.out _ _ HS6.out (fun hHeld => ?_)
                  clear hK K
                  try simp only [Act.put, List.getElem_toArray, List.getElem_cons_succ, List.getElem_cons_zero, List.setIfInBounds_toArray, List.set_cons_zero, List.set_cons_succ]
                  refine wpAnyH_done (by kernel_rfl) ?_ _
                  generalize hw6 : w5.setCell ⟨x, 4, none⟩ (.bool true) = w6 at HRS6 HWX6 HSZ6 ⊢
                  clear hw6 hlo hhi yc yf
                  go_wp2_with fail
                  go_loopg [13] n2 (fun k' iv wr6 => ∃ (i : Nat) (wvi : Value) (Zi : Blocks), i ≤ n2 ∧ iv = .int .i64 i ∧ k' = n2 - i ∧ Hid (RS W wr6 G0 Z0 G3 Zi rb d (s1.ouWrite t ou a.parts.flatten).1 t o dB tB (s1.ouWrite t ou a.parts.flatten).2.1 x 1 (whole ++ (a.parts.take i).flatten) bv1 av1 wvi an true) ∧ Hid (WX wr6 loB hiB g2 a.parts blk i) ∧ Hid (∀ b, loB ≤ b → b < hiB → ¬ Zi b) ∧ Hid (hiB ≤ wr6.heap.size))
                  case atStart => exact ⟨0, wv1, Z, Nat.zero_le _, rfl, rfl, Lib.hid (by simpa using HRS6.out), HWX6, HZB, HSZ6⟩
                  case round =>
                    obtain ⟨i, wvi, Zi, hi, rfl, rfl, HRSi, HWXi, HZi, HSi⟩ := hrel
                    obtain ⟨wt, hwt⟩ : ∃ wt : World, wt = wr := ⟨_, rfl⟩
                    by_cases hin : i < n2
                    · have hip : i < a.parts.length := by rw [← HN2.out]; exact hin
                      obtain ⟨A5, n5, c5, hwv5, hn5, hnc5, hcm5⟩ := HRSi.out.rc.who.form
                      subst hwv5
                      obtain ⟨e7, hbl1, hbl2⟩ := HWXi.out.at_ i hip
                      have hsl := HWXi.out.slice i hip (Nat.le_refl _)
                      have HFN : Hid ((a.parts.take (i + 1)).flatten = (a.parts.take i).flatten ++ a.parts[i]) := Lib.hid (flat_next a.parts i hip)
                      have HFL : Hid ((a.parts.take i).flatten.length + a.parts[i].length ≤ a.parts.flatten.length) := Lib.hid (by have h1 := flat_len a.parts (i + 1); rw [HFN.out, List.length_append] at h1; exact h1)
                      have HTU : Hid (∀ w9 w10 : World, WX w9 loB hiB g2 a.parts blk i → hiB ≤ w9.heap.size → Only (fun b => b = blk i) w9 w10 → w10.cell? ⟨g2, i, none⟩ = some (.slice (some ⟨blk i, 0, none⟩) a.parts[i].length (a.parts[i].length + 64)) ∧ ((∃ l, l.length = a.parts[i].length + 64 ∧ Own Rep.byte 5 w10 0 nob (.slice (some ⟨blk i, 0, none⟩) (a.parts[i].length + 64) (a.parts[i].length + 64)) l) → WX w10 loB hiB g2 a.parts blk (i + 1))) := Lib.hid fun w9 w10 h1 h2 h3 => ⟨h1.other hip h2 h3 hip, fun h4 => h1.turn hip h2 h3 h4⟩
                      have HRW : Hid (∀ w9 : World, WX w9 loB hiB g2 a.parts blk i → ∃ l, l.length = a.parts[i].length + 64 ∧ Own Rep.byte 5 w9 0 nob (.slice (some ⟨blk i, 0, none⟩) (a.parts[i].length + 64) (a.parts[i].length + 64)) l) := Lib.hid fun w9 h => by obtain ⟨l, h1, h2, -⟩ := h.row i hip; exact ⟨l, h1, h2⟩
                      obtain ⟨lp, hlp⟩ : ∃ lp, lp = a.parts[i] := ⟨_, rfl⟩
                      rw [← hlp] at e7 hsl HFN HFL HTU HRW
                      have HSL := Lib.hid hsl
                      obtain ⟨bk, hbk⟩ : ∃ bk, bk = blk i := ⟨_, rfl⟩
                      rw [← hbk] at e7 HSL hbl1 hbl2 HTU HRW
                      have hlb : lp.length ≤ 549755813888 := by have := HFL.out; have := HBL.out; omega
                      have hii : i ≤ 9223372036854775807 := by omega
                      have HBK : Hid (loB ≤ bk ∧ bk < hiB) := Lib.hid ⟨hbl1, hbl2⟩
                      have HWL : Hid ((whole ++ (a.parts.take i).flatten).length + lp.length ≤ 549755813888) := Lib.hid (by have := HFL.out; have := HBL.out; rw [List.length_append]; omega)
                      clear hsl hlp hbk hbl1 hbl2
                      obtain ⟨wl, hwl⟩ : ∃ wl, wl = whole ++ (a.parts.take i).flatten := ⟨_, rfl⟩
                      rw [← hwl] at HRSi HWL
                      have HWLE := Lib.hid hwl
                      clear hwl
                      have HLi : Hid (∀ u, RS W u G0 Z0 G3 Zi rb d (s1.ouWrite t ou a.parts.flatten).1 t o dB tB (s1.ouWrite t ou a.parts.flatten).2.1 x 1 wl bv1 av1 (.slice A5 n5 c5) an true → u.cell? ⟨rB, 0, none⟩ = some (.pointer (some ⟨x, 0, none⟩))) := Lib.hid fun u h => (HLD.out u h.only).1
                      have HRSd := Lib.hid (HRSi.out.far ((Below.refl _ _).drew : Below wr.heap.size wr wr.drew))
                      have y5 : wr.drew.cell? ⟨x, 3, none⟩ = some (.slice A5 n5 c5) := HRSd.out.rc.cell 3
                      have e8 : wr.drew.cell? ⟨g2, i, none⟩ = some (.slice (some ⟨bk, 0, none⟩) lp.length (lp.length + 64)) := by exact e7
                      have hi1 : (i : Int) < (n2 : Int) := by omega
                      have hi0 : (0 : Int) ≤ (i : Int) := Int.natCast_nonneg _
                      go_upto_region 20 with fail
                      refine wp_region_held_drew (S := fun u => u.cell? ⟨rB, 0, none⟩ = some (.pointer (some ⟨x, 0, none⟩)) ∧ u.cell? ⟨g2, i, none⟩ = some (.slice (some ⟨bk, 0, none⟩) lp.length (lp.length + 64))) (by kernel_rfl) ⟨HLi.out _ HRSd.out, e8⟩ (fun hHeld => ?_)
                      refine wpAnyH_take (i := 0) (v := ?_) rfl (by kernel_rfl) (by kernel_rfl) (by kernel_rfl) (fun _ _ _ h => h) (Or.inl ⟨by rfl, ?_⟩) (by assumption) ?_
                      rotate_left 1
                      · (intro w hSw; (try dsimp only at hSw); (try simp only [List.getElem_toArray, List.getElem_cons_succ, List.getElem_cons_zero]); go_simp <;> (try with_reducible rfl))
                      try simp only [Act.put, List.getElem_toArray, List.getElem_cons_succ, List.getElem_cons_zero, List.setIfInBounds_toArray, List.set_cons_zero, List.set_cons_succ]
                      refine wpAnyH_take (i := 1) (v := ?_) rfl (by kernel_rfl) (by kernel_rfl) (by kernel_rfl) (fun _ _ _ h => h) (Or.inl ⟨by rfl, ?_⟩) (by assumption) ?_
                      rotate_left 1
                      · (intro w hSw; (try dsimp only at hSw); (try simp only [List.getElem_toArray, List.getElem_cons_succ, List.getElem_cons_zero]); go_simp <;> (try with_reducible rfl))
                      try simp only [Act.put, List.getElem_toArray, List.getElem_cons_succ, List.getElem_cons_zero, List.setIfInBounds_toArray, List.set_cons_zero, List.set_cons_succ]
                      refine wpAnyH_take (i := 2) (v := ?_) rfl (by kernel_rfl) (by kernel_rfl) (by kernel_rfl) (fun _ _ _ h => h) (Or.inl ⟨by rfl, ?_⟩) (by assumption) ?_
                      rotate_left 1
                      · (intro w hSw; (try dsimp only at hSw); (try simp only [List.getElem_toArray, List.getElem_cons_succ, List.getElem_cons_zero]); go_simp <;> (try with_reducible rfl))
                      try simp only [Act.put, List.getElem_toArray, List.getElem_cons_succ, List.getElem_cons_zero, List.setIfInBounds_toArray, List.set_cons_zero, List.set_cons_succ]
                      refine wpAnyH_take (i := 3) (v := ?_) rfl (by kernel_rfl) (by kernel_rfl) (by kernel_rfl) (fun _ _ _ h => h) (Or.inl ⟨by rfl, ?_⟩) (by assumption) ?_
                      rotate_left 1
                      · (intro w hSw; (try dsimp only at hSw); (try simp only [List.getElem_toArray, List.getElem_cons_succ, List.getElem_cons_zero]); go_simp <;> (try with_reducible rfl))
                      try simp only [Act.put, List.getElem_toArray, List.getElem_cons_succ, List.getElem_cons_zero, List.setIfInBounds_toArray, List.set_cons_zero, List.set_cons_succ]
                      refine wpAnyH_take (i := 5) (v := ?_) rfl (by kernel_rfl) (by kernel_rfl) (by kernel_rfl) (fun _ _ _ h => h) (Or.inl ⟨by rfl, ?_⟩) (by assumption) ?_
                      rotate_left 1
                      · (intro w hSw; (try dsimp only at hSw); (try simp only [List.getElem_toArray, List.getElem_cons_succ, List.getElem_cons_zero]); go_simp <;> (try with_reducible rfl))
                      try simp only [Act.put, List.getElem_toArray, List.getElem_cons_succ, List.getElem_cons_zero, List.setIfInBounds_toArray, List.set_cons_zero, List.set_cons_succ]
                      refine wpAnyH_take (i := 6) (v := ?_) rfl (by kernel_rfl) (by kernel_rfl) (by kernel_rfl) (fun _ _ _ h => h) (Or.inl ⟨by rfl, ?_⟩) (by assumption) ?_
                      rotate_left 1
                      · (intro w hSw; (try dsimp only at hSw); (try simp only [List.getElem_toArray, List.getElem_cons_succ, List.getElem_cons_zero]); go_simp <;> (try with_reducible rfl))
                      try simp only [Act.put, List.getElem_toArray, List.getElem_cons_succ, List.getElem_cons_zero, List.setIfInBounds_toArray, List.set_cons_zero, List.set_cons_succ]
                      refine wpAnyH_take (i := 7) (v := ?_) rfl (by kernel_rfl) (by kernel_rfl) (by kernel_rfl) (fun _ _ _ h => h) (Or.inl ⟨by rfl, ?_⟩) (by assumption) ?_
                      rotate_left 1
                      · (intro w hSw; (try dsimp only at hSw); (try simp only [List.getElem_toArray, List.getElem_cons_succ, List.getElem_cons_zero]); go_simp <;> (try with_reducible rfl))
                      try simp only [Act.put, List.getElem_toArray, List.getElem_cons_succ, List.getElem_cons_zero, List.setIfInBounds_toArray, List.set_cons_zero, List.set_cons_succ]
                      refine wpAnyH_take (i := 8) (v := ?_) rfl (by kernel_rfl) (by kernel_rfl) (by kernel_rfl) (fun _ _ _ h => h) (Or.inl ⟨by rfl, ?_⟩) (by assumption) ?_
                      rotate_left 1
                      · (intro w hSw; (try dsimp only at hSw); (try simp only [List.getElem_toArray, List.getElem_cons_succ, List.getElem_cons_zero]); go_simp <;> (try with_reducible rfl))
                      try simp only [Act.put, List.getElem_toArray, List.getElem_cons_succ, List.getElem_cons_zero, List.setIfInBounds_toArray, List.set_cons_zero, List.set_cons_succ]
                      refine wpAnyH_ready (rs := [4]) (by kernel_rfl) (by simp) ?_
                      refine AllReadyH.cons rfl (fun K hK => ?_) AllReadyH.nil
                      go_simp
                      refine hK.out _ _ ⟨HLi.out _ HRSd.out, e8⟩ (fun hHeld => ?_)
                      clear hK K
                      try simp only [Act.put, List.getElem_toArray, List.getElem_cons_succ, List.getElem_cons_zero, List.setIfInBounds_toArray, List.set_cons_zero, List.set_cons_succ]
                      refine wpAnyH_ready (rs := [9]) (by kernel_rfl) (by simp) ?_
                      refine AllReadyH.cons rfl (fun K hK => ?_) AllReadyH.nil
                      refine step_append_Own rfl (.tmp 90) (.tmp 94) 32 rfl Rep.byte 0 5 1 stBytes nob (.slice A5 n5 c5) wl (by simp [Act.eval]) HRSd.out.rc.who _ (some ⟨bk, 0, none⟩) (lp.length + 64) lp (by simp [Act.eval]) HSL.out nob (fun _ h => h.elim) (fun _ h => h) (fun _ _ h => h) (by have := HWL.out; omega) (by have := HWL.out; omega) (Nat.zero_le _) ?_
                      intro v8 w8 hown8 hg8 hat8
                      obtain ⟨A8, n8, c8, rfl, -, -, -⟩ := hown8.form
                      have hx8 := HRSd.out.rc.stay hg8 (HRSd.out.rc.ne HRSd.out.rc.who (by decide))
                      have ho8 := HRSd.out.mid (Only.of_grown hg8 Zi fun b hb => HRSd.out.rc.zw b hb.symm)
                      have HX8 : Hid (Only Zi wr w8) := Lib.hid ((Only.of_below ((Below.refl _ _).drew) Zi).trans (Only.of_grown hg8 Zi fun b hb => HRSd.out.rc.zw b hb.symm) fun _ h => .inl h)
                      obtain ⟨hrr, hor⟩ := HRSd.out.rc.setWhole hown8 hg8 hat8
                      have HRS9 := Lib.hid (HRSd.out.rec_ hrr hor fun b hb => hb.imp id (·.1))
                      have HX9 : Hid (Only Zi wr (w8.setCell ⟨x, 3, none⟩ (.slice A8 n8 c8))) := Lib.hid ((Only.of_below ((Below.refl _ _).drew) Zi).trans hor fun _ h => .inl h)
                      have HWX8 := Lib.hid (HWXi.out.only HX8.out HZi.out HSi.out)
                      have HWX9 := Lib.hid (HWXi.out.only HX9.out HZi.out HSi.out)
                      have HSZ9 : Hid (hiB ≤ (w8.setCell ⟨x, 3, none⟩ (.slice A8 n8 c8)).heap.size) := Lib.hid (Nat.le_trans HSi.out HX9.out.size)
                      have HZ9 : Hid (∀ b, loB ≤ b → b < hiB → ¬ (Zi b ∨ (wr.drew.heap.size ≤ b ∧ b < w8.heap.size))) := Lib.hid fun b h1 h2 h3 => h3.elim (HZi.out b h1 h2) fun h3 => by have := HSi.out; have : wr.heap.size ≤ b := h3.1; omega
                      have HE8 := Lib.hid (HTU.out w8 w8 HWX8.out (Nat.le_trans HSi.out HX8.out.size) (Only.refl _ _)).1
                      have HS8 := Lib.hid (HLD.out _ ho8).1
                      have y2 : w8.cell? ⟨x, 3, none⟩ = some (.slice A5 n5 c5) := (cell_of_row w8 x 3 _ _ (0, 0) hx8).trans rfl
                      have yf : w8.frozen? ⟨x, 3, none⟩ = false := by simp [World.frozen?, hx8]
                      clear hown8 hg8 hat8 hx8 ho8 hrr hor
                      refine hK.out _ _ ⟨HS8.out, HE8.out⟩ (fun hHeld => ?_)
                      clear hK K
                      try simp only [Act.put, List.getElem_toArray, List.getElem_cons_succ, List.getElem_cons_zero, List.setIfInBounds_toArray, List.set_cons_zero, List.set_cons_succ]
                      refine wpAnyH_take (i := 10) (v := ?_) rfl (by kernel_rfl) (by kernel_rfl) (by kernel_rfl) (fun _ _ _ h => h) (Or.inl ⟨by rfl, ?_⟩) (by assumption) ?_
                      rotate_left 1
                      · (intro w hSw; (try dsimp only at hSw); (try simp only [List.getElem_toArray, List.getElem_cons_succ, List.getElem_cons_zero]); go_simp <;> (try with_reducible rfl))
                      try simp only [Act.put, List.getElem_toArray, List.getElem_cons_succ, List.getElem_cons_zero, List.setIfInBounds_toArray, List.set_cons_zero, List.set_cons_succ]
                      refine wpAnyH_take (i := 11) (v := ?_) rfl (by kernel_rfl) (by kernel_rfl) (by kernel_rfl) (fun _ _ _ h => h) (Or.inl ⟨by rfl, ?_⟩) (by assumption) ?_
                      rotate_left 1
                      · (intro w hSw; (try dsimp only at hSw); (try simp only [List.getElem_toArray, List.getElem_cons_succ, List.getElem_cons_zero]); go_simp <;> (try with_reducible rfl))
                      try simp only [Act.put, List.getElem_toArray, List.getElem_cons_succ, List.getElem_cons_zero, List.setIfInBounds_toArray, List.set_cons_zero, List.set_cons_succ]
                      refine wpAnyH_ready (rs := [12]) (by kernel_rfl) (by simp) ?_
                      refine AllReadyH.cons rfl (fun K hK => ?_) AllReadyH.nil
                      have HE9 := Lib.hid (HTU.out _ _ HWX9.out HSZ9.out (Only.refl _ _)).1
                      have HS9 := Lib.hid (HLD.out _ HRS9.out.only).1
                      go_simp
                      refine hK.out _ _ ⟨HS9.out, HE9.out⟩ (fun hHeld => ?_)
                      clear hK K
                      try simp only [Act.put, List.getElem_toArray, List.getElem_cons_succ, List.getElem_cons_zero, List.setIfInBounds_toArray, List.set_cons_zero, List.set_cons_succ]
                      refine wpAnyH_done (by kernel_rfl) ?_ _
                      generalize hw9 : w8.setCell ⟨x, 3, none⟩ (.slice A8 n8 c8) = w9 at HRS9 HWX9 HSZ9 ⊢
                      clear hw9 y5 e7 e8 y2 yf
                      obtain ⟨Z9, hz9⟩ : ∃ Z9 : Blocks, Z9 = fun b => Zi b ∨ (wr.drew.heap.size ≤ b ∧ b < w8.heap.size) := ⟨_, rfl⟩
                      rw [← hz9] at HRS9
                      replace HZ9 : Hid (∀ b, loB ≤ b → b < hiB → ¬ Z9 b) := Lib.hid (by rw [hz9]; exact HZ9.out)
                      clear hz9
                      have HST9 : Hid (∀ u, Only (fun b => b = bk) w9 u → RS W u G0 Z0 G3 Z9 rb d (s1.ouWrite t ou a.parts.flatten).1 t o dB tB (s1.ouWrite t ou a.parts.flatten).2.1 x 1 (wl ++ lp) bv1 av1 (.slice A8 n8 c8) an true) := Lib.hid fun u hu => HRS9.out.else_ hu (by rintro b rfl; exact ⟨HGB.out _ HBK.out.1 HBK.out.2, HZ9.out _ HBK.out.1 HBK.out.2, .inr (Nat.le_trans HLB.out HBK.out.1)⟩)
                      obtain ⟨lx0, hlx0, hox0⟩ := HRW.out w9 HWX9.out
                      have HOX0 := Lib.hid hox0
                      clear hox0
                      have HC9 : Hid (∀ u, Only (fun b => b = bk) w9 u → u.cell? ⟨g2, i, none⟩ = some (.slice (some ⟨bk, 0, none⟩) lp.length (lp.length + 64))) := Lib.hid fun u hu => (HTU.out w9 u HWX9.out HSZ9.out hu).1
                      have e9 := HC9.out w9 (Only.refl _ _)
                      go_wp2_with fail
                      go_loopg [14] lp.length (fun k' iv wr7 => ∃ (j2 : Nat) (lx : List UInt8), j2 ≤ lp.length ∧ iv = .int .i64 j2 ∧ k' = lp.length - j2 ∧ lx.length = lp.length + 64 ∧ Hid (Only (fun b => b = bk) w9 wr7) ∧ Hid (Own Rep.byte 5 wr7 0 nob (.slice (some ⟨bk, 0, none⟩) (lp.length + 64) (lp.length + 64)) lx))
                      case atStart => exact ⟨0, lx0, Nat.zero_le _, rfl, rfl, hlx0, Lib.hid (Only.refl _ _), HOX0⟩
                      case round =>
                        obtain ⟨j2, lx, hj2, rfl, rfl, hlx, HO7, HX7⟩ := hrel
                        have e7 := HC9.out _ HO7.out
                        by_cases hjn2 : j2 < lp.length
                        · obtain ⟨gz, cz, uz, he, -, hgl, hcell, hfr, hu, hput⟩ := HX7.out.cellAt rfl (k := j2) (by omega)
                          simp only [Value.slice.injEq, Option.some.injEq, Addr.mk.injEq] at he
                          obtain ⟨⟨rfl, -⟩, -, -⟩ := he
                          simp only [Rep.byte, List.cons.injEq, and_true] at hu
                          generalize lx[j2]'(by omega) = z at hu
                          rw [hu] at hcell
                          have HPUT := Lib.hid hput
                          have hj3 : j2 ≤ 9223372036854775807 := by omega
                          have hj4 : (j2 : Int) < (lp.length : Int) := by omega
                          have hj0 : (0 : Int) ≤ (j2 : Int) := Int.natCast_nonneg _
                          clear hput hu
                          have HOD : Hid (Only (fun b => b = bk) w9 wr.drew) := Lib.hid (HO7.out.trans (Only.of_below ((Below.refl _ _).drew) _) fun _ h => .inl h)
                          have hcd : wr.drew.cell? ⟨bk, j2, none⟩ = some (.int .u8 z.toNat) := hcell
                          have hfd : wr.drew.frozen? ⟨bk, j2, none⟩ = false := hfr
                          go_upto_region 24 with fail
                          refine wp_region_held_drew (S := fun u => u.cell? ⟨g2, i, none⟩ = some (.slice (some ⟨bk, 0, none⟩) lp.length (lp.length + 64))) (by kernel_rfl) (HC9.out _ HOD.out) (fun hHeld => ?_)
                          refine wpAnyH_take (i := 0) (v := ?_) rfl (by kernel_rfl) (by kernel_rfl) (by kernel_rfl) (fun _ _ _ h => h) (Or.inl ⟨by rfl, ?_⟩) (by assumption) ?_
                          rotate_left 1
                          · (intro w hSw; (try dsimp only at hSw); (try simp only [List.getElem_toArray, List.getElem_cons_succ, List.getElem_cons_zero]); go_simp <;> (try with_reducible rfl))
                          try simp only [Act.put, List.getElem_toArray, List.getElem_cons_succ, List.getElem_cons_zero, List.setIfInBounds_toArray, List.set_cons_zero, List.set_cons_succ]
                          refine wpAnyH_take (i := 1) (v := ?_) rfl (by kernel_rfl) (by kernel_rfl) (by kernel_rfl) (fun _ _ _ h => h) (Or.inl ⟨by rfl, ?_⟩) (by assumption) ?_
                          rotate_left 1
                          · (intro w hSw; (try dsimp only at hSw); (try simp only [List.getElem_toArray, List.getElem_cons_succ, List.getElem_cons_zero]); go_simp <;> (try with_reducible rfl))
                          try simp only [Act.put, List.getElem_toArray, List.getElem_cons_succ, List.getElem_cons_zero, List.setIfInBounds_toArray, List.set_cons_zero, List.set_cons_succ]
                          refine wpAnyH_take (i := 2) (v := ?_) rfl (by kernel_rfl) (by kernel_rfl) (by kernel_rfl) (fun _ _ _ h => h) (Or.inl ⟨by rfl, ?_⟩) (by assumption) ?_
                          rotate_left 1
                          · (intro w hSw; (try dsimp only at hSw); (try simp only [List.getElem_toArray, List.getElem_cons_succ, List.getElem_cons_zero]); go_simp <;> (try with_reducible rfl))
                          try simp only [Act.put, List.getElem_toArray, List.getElem_cons_succ, List.getElem_cons_zero, List.setIfInBounds_toArray, List.set_cons_zero, List.set_cons_succ]
                          refine wpAnyH_take (i := 3) (v := ?_) rfl (by kernel_rfl) (by kernel_rfl) (by kernel_rfl) (fun _ _ _ h => h) (Or.inl ⟨by rfl, ?_⟩) (by assumption) ?_
                          rotate_left 1
                          · (intro w hSw; (try dsimp only at hSw); (try simp only [List.getElem_toArray, List.getElem_cons_succ, List.getElem_cons_zero]); go_simp <;> (try with_reducible rfl))
                          try simp only [Act.put, List.getElem_toArray, List.getElem_cons_succ, List.getElem_cons_zero, List.setIfInBounds_toArray, List.set_cons_zero, List.set_cons_succ]
                          refine wpAnyH_take (i := 4) (v := ?_) rfl (by kernel_rfl) (by kernel_rfl) (by kernel_rfl) (fun _ _ _ h => h) (Or.inl ⟨by rfl, ?_⟩) (by assumption) ?_
                          rotate_left 1
                          · (intro w hSw; (try dsimp only at hSw); (try simp only [List.getElem_toArray, List.getElem_cons_succ, List.getElem_cons_zero]); go_simp <;> (try with_reducible rfl))
                          try simp only [Act.put, List.getElem_toArray, List.getElem_cons_succ, List.getElem_cons_zero, List.setIfInBounds_toArray, List.set_cons_zero, List.set_cons_succ]
                          refine wpAnyH_take (i := 5) (v := ?_) rfl (by kernel_rfl) (by kernel_rfl) (by kernel_rfl) (fun _ _ _ h => h) (Or.inl ⟨by rfl, ?_⟩) (by assumption) ?_
                          rotate_left 1
                          · (intro w hSw; (try dsimp only at hSw); (try simp only [List.getElem_toArray, List.getElem_cons_succ, List.getElem_cons_zero]); go_simp <;> (try with_reducible rfl))
                          try simp only [Act.put, List.getElem_toArray, List.getElem_cons_succ, List.getElem_cons_zero, List.setIfInBounds_toArray, List.set_cons_zero, List.set_cons_succ]
                          refine wpAnyH_take (i := 6) (v := ?_) rfl (by kernel_rfl) (by kernel_rfl) (by kernel_rfl) (fun _ _ _ h => h) (Or.inl ⟨by rfl, ?_⟩) (by assumption) ?_
                          rotate_left 1
                          · (intro w hSw; (try dsimp only at hSw); (try simp only [List.getElem_toArray, List.getElem_cons_succ, List.getElem_cons_zero]); go_simp <;> (try with_reducible rfl))
                          try simp only [Act.put, List.getElem_toArray, List.getElem_cons_succ, List.getElem_cons_zero, List.setIfInBounds_toArray, List.set_cons_zero, List.set_cons_succ]
                          refine wpAnyH_take (i := 7) (v := ?_) rfl (by kernel_rfl) (by kernel_rfl) (by kernel_rfl) (fun _ _ _ h => h) (Or.inl ⟨by rfl, ?_⟩) (by assumption) ?_
                          rotate_left 1
                          · (intro w hSw; (try dsimp only at hSw); (try simp only [List.getElem_toArray, List.getElem_cons_succ, List.getElem_cons_zero]); go_simp <;> (try with_reducible rfl))
                          try simp only [Act.put, List.getElem_toArray, List.getElem_cons_succ, List.getElem_cons_zero, List.setIfInBounds_toArray, List.set_cons_zero, List.set_cons_succ]
                          refine wpAnyH_take (i := 8) (v := ?_) rfl (by kernel_rfl) (by kernel_rfl) (by kernel_rfl) (fun _ _ _ h => h) (Or.inl ⟨by rfl, ?_⟩) (by assumption) ?_
                          rotate_left 1
                          · (intro w hSw; (try dsimp only at hSw); (try simp only [List.getElem_toArray, List.getElem_cons_succ, List.getElem_cons_zero]); go_simp <;> (try with_reducible rfl))
                          try simp only [Act.put, List.getElem_toArray, List.getElem_cons_succ, List.getElem_cons_zero, List.setIfInBounds_toArray, List.set_cons_zero, List.set_cons_succ]
                          refine wpAnyH_take (i := 9) (v := ?_) rfl (by kernel_rfl) (by kernel_rfl) (by kernel_rfl) (fun _ _ _ h => h) (Or.inl ⟨by rfl, ?_⟩) (by assumption) ?_
                          rotate_left 1
                          · (intro w hSw; (try dsimp only at hSw); (try simp only [List.getElem_toArray, List.getElem_cons_succ, List.getElem_cons_zero]); go_simp <;> (try with_reducible rfl))
                          try simp only [Act.put, List.getElem_toArray, List.getElem_cons_succ, List.getElem_cons_zero, List.setIfInBounds_toArray, List.set_cons_zero, List.set_cons_succ]
                          refine wpAnyH_take (i := 10) (v := ?_) rfl (by kernel_rfl) (by kernel_rfl) (by kernel_rfl) (fun _ _ _ h => h) (Or.inl ⟨by rfl, ?_⟩) (by assumption) ?_
                          rotate_left 1
                          · (intro w hSw; (try dsimp only at hSw); (try simp only [List.getElem_toArray, List.getElem_cons_succ, List.getElem_cons_zero]); go_simp <;> (try with_reducible rfl))
                          try simp only [Act.put, List.getElem_toArray, List.getElem_cons_succ, List.getElem_cons_zero, List.setIfInBounds_toArray, List.set_cons_zero, List.set_cons_succ]
                          refine wpAnyH_ready (rs := [11]) (by kernel_rfl) (by simp) ?_
                          refine AllReadyH.cons rfl (fun K hK => ?_) AllReadyH.nil
                          go_simp
                          refine hK.out _ _ (HC9.out _ HOD.out) (fun hHeld => ?_)
                          clear hK K
                          try simp only [Act.put, List.getElem_toArray, List.getElem_cons_succ, List.getElem_cons_zero, List.setIfInBounds_toArray, List.set_cons_zero, List.set_cons_succ]
                          refine wpAnyH_take (i := 12) (v := ?_) rfl (by kernel_rfl) (by kernel_rfl) (by kernel_rfl) (fun _ _ _ h => h) (Or.inl ⟨by rfl, ?_⟩) (by assumption) ?_
                          rotate_left 1
                          · (intro w hSw; (try dsimp only at hSw); (try simp only [List.getElem_toArray, List.getElem_cons_succ, List.getElem_cons_zero]); go_simp <;> (try with_reducible rfl))
                          try simp only [Act.put, List.getElem_toArray, List.getElem_cons_succ, List.getElem_cons_zero, List.setIfInBounds_toArray, List.set_cons_zero, List.set_cons_succ]
                          refine wpAnyH_take (i := 13) (v := ?_) rfl (by kernel_rfl) (by kernel_rfl) (by kernel_rfl) (fun _ _ _ h => h) (Or.inl ⟨by rfl, ?_⟩) (by assumption) ?_
                          rotate_left 1
                          · (intro w hSw; (try dsimp only at hSw); (try simp only [List.getElem_toArray, List.getElem_cons_succ, List.getElem_cons_zero]); go_simp <;> (try with_reducible rfl))
                          try simp only [Act.put, List.getElem_toArray, List.getElem_cons_succ, List.getElem_cons_zero, List.setIfInBounds_toArray, List.set_cons_zero, List.set_cons_succ]
                          refine wpAnyH_ready (rs := [14]) (by kernel_rfl) (by simp) ?_
                          refine AllReadyH.cons rfl (fun K hK => ?_) AllReadyH.nil
                          obtain ⟨y, hy⟩ := u8_bits .xor z.toNat 85
                          have HOS : Hid (Only (fun b => b = bk) w9 (wr.drew.setCell ⟨bk, j2, none⟩ (.int .u8 y.toNat))) := Lib.hid (Only.setCell HOD.out (.inl rfl) _)
                          have HEY := Lib.hid hy
                          go_simp
                          refine hK.out _ _ (HC9.out _ HOS.out) (fun hHeld => ?_)
                          clear hK K
                          try simp only [Act.put, List.getElem_toArray, List.getElem_cons_succ, List.getElem_cons_zero, List.setIfInBounds_toArray, List.set_cons_zero, List.set_cons_succ]
                          refine wpAnyH_done (by kernel_rfl) ?_ _
                          go_wp2_with fail
                          go_roundg (lp.length - (j2 + 1))
                          case measure => omega
                          case rel => exact ⟨j2 + 1, lx.set j2 y, by omega, by go_num, rfl, by rw [List.length_set]; exact hlx, HOS, Lib.hid (HPUT.out _ _ rfl)⟩
                        · obtain rfl : j2 = lp.length := by omega
                          have HWXn := Lib.hid ((HTU.out w9 _ HWX9.out HSZ9.out HO7.out).2 ⟨lx, hlx, HX7.out⟩)
                          have HRSn := Lib.hid (HST9.out _ HO7.out)
                          have HSZn : Hid (hiB ≤ wr.heap.size) := Lib.hid (Nat.le_trans HSZ9.out HO7.out.size)
                          go_wp2_with fail
                          go_roundg (n2 - (i + 1))
                          case measure => omega
                          case rel => exact ⟨i + 1, _, Z9, by omega, by go_num, rfl, Lib.hid (by rw [HFN.out, ← List.append_assoc, ← HWLE.out]; exact HRSn.out), HWXn, HZ9, HSZn⟩
                    · obtain rfl : i = n2 := by omega
                      have HRSe : Hid (RS W wr G0 Z0 G3 Zi rb d (s1.ouWrite t ou a.parts.flatten).1 t o dB tB (s1.ouWrite t ou a.parts.flatten).2.1 x 1 (whole ++ a.parts.flatten) bv1 av1 wvi an true) := Lib.hid (by have h1 := HRSi.out; rw [HN2.out, List.take_length] at h1; exact h1)
                      go_wp2_with fail
                      go_meet
                      case rel => exact ⟨⟨_, rfl⟩, Lib.hid (by rw [HSTV.out]), Lib.hid (by rw [HSTV.out]; exact ⟨G3, Zi, bv1, av1, wvi, an, HRSe.out, hb3⟩)⟩
                have k0b : (kd == 0) = false := beq_eq_false_iff_ne.2 k0
                have K0 : Hid (a.kind ≠ 0) := Lib.hid (by rw [← HKD.out]; exact k0)
                by_cases k1 : kd = 1
                · subst k1
                  have K1 : Hid (a.kind = 1) := Lib.hid HKD.out.symm
                  have HFL := Lib.hid (flush_any (Lib.hid HRB1.out.out) HF1 HK1 (by omega) ht (by omega))
                  have HSTV : Hid (st = ((s1.ouFlush t ou).1, (s1.ouFlush t ou).2.1, whole, none)) := Lib.hid (by rw [HST.out]; unfold Disk.St.actStep; rw [if_neg K0.out, if_pos K1.out])
                  go_wp2_with fail
                  refine HFL.out.mono ?_
                  rintro e w2 hc
                  obtain ⟨rfl, hrs2⟩ := HRB1.out.out_ hc
                  have HRS2 := Lib.hid hrs2
                  clear hc hrs2
                  go_wp2_with fail
                  go_meet
                  case rel => exact ⟨⟨_, rfl⟩, Lib.hid (by rw [HSTV.out]), Lib.hid (by rw [HSTV.out]; exact ⟨_, Z, bv1, av1, wv1, an, HRS2.out, hb3⟩)⟩
                have k1b : (kd == 1) = false := beq_eq_false_iff_ne.2 k1
                have K1 : Hid (a.kind ≠ 1) := Lib.hid (by rw [← HKD.out]; exact k1)
                by_cases k2 : kd = 2
                · subst k2
                  have K2 : Hid (a.kind = 2) := Lib.hid HKD.out.symm
                  have HKP : Hid (∀ u, Only G Wb u → u.cell? ⟨xB, 0, none⟩ = some (.pointer (some ⟨d, 0, none⟩)) ∧ u.cell? ⟨aB, 1, none⟩ = some (.slice pA a.parts.length pc) ∧ u.cell? ⟨aB, 2, none⟩ = some (.string ⟨a.name.toArray⟩) ∧ u.cell? ⟨cB, 0, none⟩ = some (.int .i64 C.room) ∧ u.cell? ⟨cB, 1, none⟩ = some (.slice C.fA C.fn C.fc) ∧ u.cell? ⟨cB, 2, none⟩ = some (.slice C.lA C.ln C.lc) ∧ u.cell? ⟨cB, 3, none⟩ = some (.string C.name) ∧ u.cell? ⟨cB, 4, none⟩ = some (.slice C.aA C.an C.ac) ∧ u.cell? ⟨cB, 5, none⟩ = some (.int .i64 C.dir) ∧ u.cell? ⟨cB, 6, none⟩ = some (.slice C.kA C.kn C.kc)) := Lib.hid fun u hu => by
                    obtain ⟨-, q4, q3, -⟩ := HLD.out u (HRB1.out.only.trans hu fun b hb => (HRB1.out.gs b hb).imp .inl id)
                    have ha := (hu.block aB HAB.out.1 HABG.out.1).trans HBX.out
                    have hcc := fun i => cell_of_row u cB i _ _ (0, 0) q3
                    exact ⟨q4, (cell_of_row u aB 1 _ _ (0, 0) ha).trans rfl, (cell_of_row u aB 2 _ _ (0, 0) ha).trans rfl, (hcc 0).trans rfl, (hcc 1).trans rfl, (hcc 2).trans rfl, (hcc 3).trans rfl, (hcc 4).trans rfl, (hcc 5).trans rfl, (hcc 6).trans rfl⟩
                  have HOT : Hid (∀ u, Calls Try.prog 56 #[.agg #[.int .i64 C.room, .slice C.fA C.fn C.fc, .slice C.lA C.ln C.lc, .string C.name, .slice C.aA C.an C.ac, .int .i64 C.dir, .slice C.kA C.kn C.kc], .string ⟨a.name.toArray⟩] u fun e w' => e = .returned (.string (ba (Disk.other C.name.data.toList a.name))) ∧ Below u.heap.size u w') := Lib.hid fun u => other_any C ⟨a.name.toArray⟩
                  have hol : (ba (Disk.other C.name.data.toList a.name)).size ≤ maxLen := by rw [ba_size]; exact other_len hnl
                  have HD0 : Hid (Only G Wb Wb.drew) := Lib.hid (Only.of_below ((Below.refl _ _).drew) G)
                  clear b0 b1 b2 b3
                  obtain ⟨ns, hns⟩ : ∃ ns, ns = Disk.other C.name.data.toList a.name := ⟨_, rfl⟩
                  rw [← hns] at HOT hol
                  have HSTV : Hid (st = ((s1.puts ns a.parts).1, ou, whole, none)) := Lib.hid (by rw [HST.out]; unfold Disk.St.actStep; rw [if_neg K0.out, if_neg K1.out, if_pos K2.out, ← hns])
                  clear hns
                  have HWT := Lib.hid (Disk.weight_le hjl HAJ.out.symm)
                  have HPP : Hid (a.parts.length + 2 ≤ a.weight ∧ ∀ p ∈ a.parts, p.length ≤ a.weight) := Lib.hid ⟨by unfold Disk.ActV.weight; omega, fun p hp => by have := Disk.part_le hp; unfold Disk.ActV.weight; omega⟩
                  have HSC : Hid (∀ u, Below Wb.heap.size Wb u → Calls Try.prog 55 #[.pointer (some ⟨d, 0, none⟩), .string (ba ns), .slice pA a.parts.length pc] u (OutCall u G d t o dB tB ((s1.puts ns a.parts).1, ou, (s1.puts ns a.parts).2))) := Lib.hid fun u hu => (HRB1.out.far hu).out.calls' fun F hF hFG => by
                    have hSS : ∀ b, S b → b < wr.heap.size ∧ ¬ G b := fun b hb => ⟨Nat.lt_of_lt_of_le (hT.out b (.inl hb)).1 HRS.out.only.size, fun hg => (HRS.out.gs b hg).elim (fun h => (hT.out b (.inl hb)).2 (.inl h)) fun h => by have := (hT.out b (.inl hb)).1; omega⟩
                    have hbb : Below wr.heap.size wr u := (show Below wr.heap.size wr Wb by rw [HWB.out]; exact Below.alloc (Below.refl _ _) (Nat.le_refl _) _).trans (hu.mono (by rw [HWB.out]; simp))
                    have := HWT.out; have := HPP.out.1
                    exact puts_any (ba ns) hol pA a.parts.length pc a.parts S (Lib.hid rfl) (Lib.hid (HPS.out.keep (fun _ h => h) (Same.of_below hbb fun b hb => (hSS b hb).1))) (Lib.hid fun b hb => ⟨Nat.lt_of_lt_of_le (hSS b hb).1 hbb.size, fun h => (hSS b hb).2 (hFG b h)⟩) (Lib.hid fun p hp => by have := HPP.out.2 p hp; omega) (Lib.hid hF) HF1 HK1 (by omega)
                  go_upto_region 28 with fail
                  refine wp_region_held_drew (S := fun u => u.cell? ⟨xB, 0, none⟩ = some (.pointer (some ⟨d, 0, none⟩)) ∧ u.cell? ⟨aB, 1, none⟩ = some (.slice pA a.parts.length pc) ∧ u.cell? ⟨aB, 2, none⟩ = some (.string ⟨a.name.toArray⟩) ∧ u.cell? ⟨cB, 0, none⟩ = some (.int .i64 C.room) ∧ u.cell? ⟨cB, 1, none⟩ = some (.slice C.fA C.fn C.fc) ∧ u.cell? ⟨cB, 2, none⟩ = some (.slice C.lA C.ln C.lc) ∧ u.cell? ⟨cB, 3, none⟩ = some (.string C.name) ∧ u.cell? ⟨cB, 4, none⟩ = some (.slice C.aA C.an C.ac) ∧ u.cell? ⟨cB, 5, none⟩ = some (.int .i64 C.dir) ∧ u.cell? ⟨cB, 6, none⟩ = some (.slice C.kA C.kn C.kc)) (by kernel_rfl) (HKP.out _ HD0.out) (fun hHeld => ?_)
                  refine wpAnyH_take (i := 0) (v := ?_) rfl (by kernel_rfl) (by kernel_rfl) (by kernel_rfl) (fun _ _ _ h => h) (Or.inl ⟨by rfl, ?_⟩) (by assumption) ?_
                  rotate_left 1
                  · (intro w hSw; (try dsimp only at hSw); (try simp only [List.getElem_toArray, List.getElem_cons_succ, List.getElem_cons_zero]); go_simp <;> (try with_reducible rfl))
                  try simp only [Act.put, List.getElem_toArray, List.getElem_cons_succ, List.getElem_cons_zero, List.setIfInBounds_toArray, List.set_cons_zero, List.set_cons_succ]
                  refine wpAnyH_take (i := 1) (v := ?_) rfl (by kernel_rfl) (by kernel_rfl) (by kernel_rfl) (fun _ _ _ h => h) (Or.inl ⟨by rfl, ?_⟩) (by assumption) ?_
                  rotate_left 1
                  · (intro w hSw; (try dsimp only at hSw); (try simp only [List.getElem_toArray, List.getElem_cons_succ, List.getElem_cons_zero]); go_simp <;> (try with_reducible rfl))
                  try simp only [Act.put, List.getElem_toArray, List.getElem_cons_succ, List.getElem_cons_zero, List.setIfInBounds_toArray, List.set_cons_zero, List.set_cons_succ]
                  refine wpAnyH_take (i := 2) (v := ?_) rfl (by kernel_rfl) (by kernel_rfl) (by kernel_rfl) (fun _ _ _ h => h) (Or.inl ⟨by rfl, ?_⟩) (by assumption) ?_
                  rotate_left 1
                  · (intro w hSw; (try dsimp only at hSw); (try simp only [List.getElem_toArray, List.getElem_cons_succ, List.getElem_cons_zero]); go_simp <;> (try with_reducible rfl))
                  try simp only [Act.put, List.getElem_toArray, List.getElem_cons_succ, List.getElem_cons_zero, List.setIfInBounds_toArray, List.set_cons_zero, List.set_cons_succ]
                  refine wpAnyH_take (i := 3) (v := ?_) rfl (by kernel_rfl) (by kernel_rfl) (by kernel_rfl) (fun _ _ _ h => h) (Or.inl ⟨by rfl, ?_⟩) (by assumption) ?_
                  rotate_left 1
                  · (intro w hSw; (try dsimp only at hSw); (try simp only [List.getElem_toArray, List.getElem_cons_succ, List.getElem_cons_zero]); go_simp <;> (try with_reducible rfl))
                  try simp only [Act.put, List.getElem_toArray, List.getElem_cons_succ, List.getElem_cons_zero, List.setIfInBounds_toArray, List.set_cons_zero, List.set_cons_succ]
                  refine wpAnyH_take (i := 5) (v := ?_) rfl (by kernel_rfl) (by kernel_rfl) (by kernel_rfl) (fun _ _ _ h => h) (Or.inl ⟨by rfl, ?_⟩) (by assumption) ?_
                  rotate_left 1
                  · (intro w hSw; (try dsimp only at hSw); (try simp only [List.getElem_toArray, List.getElem_cons_succ, List.getElem_cons_zero]); go_simp <;> (try with_reducible rfl))
                  try simp only [Act.put, List.getElem_toArray, List.getElem_cons_succ, List.getElem_cons_zero, List.setIfInBounds_toArray, List.set_cons_zero, List.set_cons_succ]
                  refine wpAnyH_take (i := 6) (v := ?_) rfl (by kernel_rfl) (by kernel_rfl) (by kernel_rfl) (fun _ _ _ h => h) (Or.inl ⟨by rfl, ?_⟩) (by assumption) ?_
                  rotate_left 1
                  · (intro w hSw; (try dsimp only at hSw); (try simp only [List.getElem_toArray, List.getElem_cons_succ, List.getElem_cons_zero]); go_simp <;> (try with_reducible rfl))
                  try simp only [Act.put, List.getElem_toArray, List.getElem_cons_succ, List.getElem_cons_zero, List.setIfInBounds_toArray, List.set_cons_zero, List.set_cons_succ]
                  refine wpAnyH_ready (rs := [4]) (by kernel_rfl) (by simp) ?_
                  refine AllReadyH.cons rfl (fun K hK => ?_) AllReadyH.nil
                  go_simp
                  refine (HOT.out Wb.drew).mono ?_
                  rintro e w2 ⟨rfl, hb2⟩
                  have HB2 : Hid (Below Wb.heap.size Wb w2) := Lib.hid (((Below.refl _ Wb).drew).trans (hb2.mono (Nat.le_refl _)))
                  have HO2 : Hid (Only G Wb w2) := Lib.hid (Only.of_below HB2.out G)
                  clear hb2
                  go_wp2_with fail
                  refine hK.out _ _ (HKP.out _ HO2.out) (fun hHeld => ?_)
                  clear hK K
                  try simp only [Act.put, List.getElem_toArray, List.getElem_cons_succ, List.getElem_cons_zero, List.setIfInBounds_toArray, List.set_cons_zero, List.set_cons_succ]
                  refine wpAnyH_ready (rs := [7]) (by kernel_rfl) (by simp) ?_
                  refine AllReadyH.cons rfl (fun K hK => ?_) AllReadyH.nil
                  go_simp
                  refine (HSC.out w2 HB2.out).mono ?_
                  rintro e w3 hc
                  have HO3 : Hid (Only G Wb w3) := Lib.hid (HO2.out.trans hc.2.2 fun _ h => .inl h)
                  obtain ⟨he3, hrs3⟩ := (HRB1.out.far HB2.out).out_ hc
                  obtain ⟨q3, hq3⟩ : ∃ q, q = (s1.puts ns a.parts).2 := ⟨_, rfl⟩
                  dsimp only at he3
                  rw [← hq3] at he3
                  subst he3
                  have HRS3 := Lib.hid hrs3
                  clear hc hrs3 hq3
                  go_wp2_with fail
                  refine hK.out _ _ (HKP.out _ HO3.out) (fun hHeld => ?_)
                  clear hK K
                  try simp only [Act.put, List.getElem_toArray, List.getElem_cons_succ, List.getElem_cons_zero, List.setIfInBounds_toArray, List.set_cons_zero, List.set_cons_succ]
                  refine wpAnyH_take (i := 8) (v := ?_) rfl (by kernel_rfl) (by kernel_rfl) (by kernel_rfl) (fun _ _ _ h => h) (Or.inl ⟨by rfl, ?_⟩) (by assumption) ?_
                  rotate_left 1
                  · (intro w hSw; (try dsimp only at hSw); (try simp only [List.getElem_toArray, List.getElem_cons_succ, List.getElem_cons_zero]); go_simp <;> (try with_reducible rfl))
                  try simp only [Act.put, List.getElem_toArray, List.getElem_cons_succ, List.getElem_cons_zero, List.setIfInBounds_toArray, List.set_cons_zero, List.set_cons_succ]
                  refine wpAnyH_done (by kernel_rfl) ?_ _
                  go_wp2_with fail
                  go_meet
                  case rel => exact ⟨⟨_, rfl⟩, Lib.hid (by rw [HSTV.out]), Lib.hid (by rw [HSTV.out]; exact ⟨_, Z, bv1, av1, wv1, an, HRS3.out, hb3⟩)⟩
                have k2b : (kd == 2) = false := beq_eq_false_iff_ne.2 k2
                have K2 : Hid (a.kind ≠ 2) := Lib.hid (by rw [← HKD.out]; exact k2)
                by_cases k3 : kd = 3
                · subst k3
                  have K3 : Hid (a.kind = 3) := Lib.hid HKD.out.symm
                  have HKP : Hid (∀ u, Only G Wb u → u.cell? ⟨xB, 0, none⟩ = some (.pointer (some ⟨d, 0, none⟩)) ∧ u.cell? ⟨aB, 1, none⟩ = some (.slice pA a.parts.length pc) ∧ u.cell? ⟨aB, 2, none⟩ = some (.string ⟨a.name.toArray⟩) ∧ u.cell? ⟨cB, 0, none⟩ = some (.int .i64 C.room) ∧ u.cell? ⟨cB, 1, none⟩ = some (.slice C.fA C.fn C.fc) ∧ u.cell? ⟨cB, 2, none⟩ = some (.slice C.lA C.ln C.lc) ∧ u.cell? ⟨cB, 3, none⟩ = some (.string C.name) ∧ u.cell? ⟨cB, 4, none⟩ = some (.slice C.aA C.an C.ac) ∧ u.cell? ⟨cB, 5, none⟩ = some (.int .i64 C.dir) ∧ u.cell? ⟨cB, 6, none⟩ = some (.slice C.kA C.kn C.kc)) := Lib.hid fun u hu => by
                    obtain ⟨-, q4, q3, -⟩ := HLD.out u (HRB1.out.only.trans hu fun b hb => (HRB1.out.gs b hb).imp .inl id)
                    have ha := (hu.block aB HAB.out.1 HABG.out.1).trans HBX.out
                    have hcc := fun i => cell_of_row u cB i _ _ (0, 0) q3
                    exact ⟨q4, (cell_of_row u aB 1 _ _ (0, 0) ha).trans rfl, (cell_of_row u aB 2 _ _ (0, 0) ha).trans rfl, (hcc 0).trans rfl, (hcc 1).trans rfl, (hcc 2).trans rfl, (hcc 3).trans rfl, (hcc 4).trans rfl, (hcc 5).trans rfl, (hcc 6).trans rfl⟩
                  have HOT : Hid (∀ u, Calls Try.prog 56 #[.agg #[.int .i64 C.room, .slice C.fA C.fn C.fc, .slice C.lA C.ln C.lc, .string C.name, .slice C.aA C.an C.ac, .int .i64 C.dir, .slice C.kA C.kn C.kc], .string ⟨a.name.toArray⟩] u fun e w' => e = .returned (.string (ba (Disk.other C.name.data.toList a.name))) ∧ Below u.heap.size u w') := Lib.hid fun u => other_any C ⟨a.name.toArray⟩
                  have hol : (ba (Disk.other C.name.data.toList a.name)).size ≤ maxLen := by rw [ba_size]; exact other_len hnl
                  have HD0 : Hid (Only G Wb Wb.drew) := Lib.hid (Only.of_below ((Below.refl _ _).drew) G)
                  clear b0 b1 b2 b3
                  obtain ⟨ns, hns⟩ : ∃ ns, ns = Disk.other C.name.data.toList a.name := ⟨_, rfl⟩
                  rw [← hns] at HOT hol
                  have HSTV : Hid (st = ((s1.sync ns).1, ou, whole, none)) := Lib.hid (by rw [HST.out]; unfold Disk.St.actStep; rw [if_neg K0.out, if_neg K1.out, if_neg K2.out, if_pos K3.out, ← hns])
                  clear hns
                  have HSC : Hid (∀ u, Below Wb.heap.size Wb u → Calls Try.prog 37 #[.pointer (some ⟨d, 0, none⟩), .string (ba ns)] u (OutCall u G d t o dB tB ((s1.sync ns).1, ou, (s1.sync ns).2))) := Lib.hid fun u hu => (HRB1.out.far hu).out.calls fun F hF => sync_any (ba ns) hol (Lib.hid hF) HF1 HK1 (by omega)
                  go_upto_region 30 with fail
                  refine wp_region_held_drew (S := fun u => u.cell? ⟨xB, 0, none⟩ = some (.pointer (some ⟨d, 0, none⟩)) ∧ u.cell? ⟨aB, 1, none⟩ = some (.slice pA a.parts.length pc) ∧ u.cell? ⟨aB, 2, none⟩ = some (.string ⟨a.name.toArray⟩) ∧ u.cell? ⟨cB, 0, none⟩ = some (.int .i64 C.room) ∧ u.cell? ⟨cB, 1, none⟩ = some (.slice C.fA C.fn C.fc) ∧ u.cell? ⟨cB, 2, none⟩ = some (.slice C.lA C.ln C.lc) ∧ u.cell? ⟨cB, 3, none⟩ = some (.string C.name) ∧ u.cell? ⟨cB, 4, none⟩ = some (.slice C.aA C.an C.ac) ∧ u.cell? ⟨cB, 5, none⟩ = some (.int .i64 C.dir) ∧ u.cell? ⟨cB, 6, none⟩ = some (.slice C.kA C.kn C.kc)) (by kernel_rfl) (HKP.out _ HD0.out) (fun hHeld => ?_)
                  refine wpAnyH_take (i := 0) (v := ?_) rfl (by kernel_rfl) (by kernel_rfl) (by kernel_rfl) (fun _ _ _ h => h) (Or.inl ⟨by rfl, ?_⟩) (by assumption) ?_
                  rotate_left 1
                  · (intro w hSw; (try dsimp only at hSw); (try simp only [List.getElem_toArray, List.getElem_cons_succ, List.getElem_cons_zero]); go_simp <;> (try with_reducible rfl))
                  try simp only [Act.put, List.getElem_toArray, List.getElem_cons_succ, List.getElem_cons_zero, List.setIfInBounds_toArray, List.set_cons_zero, List.set_cons_succ]
                  refine wpAnyH_take (i := 1) (v := ?_) rfl (by kernel_rfl) (by kernel_rfl) (by kernel_rfl) (fun _ _ _ h => h) (Or.inl ⟨by rfl, ?_⟩) (by assumption) ?_
                  rotate_left 1
                  · (intro w hSw; (try dsimp only at hSw); (try simp only [List.getElem_toArray, List.getElem_cons_succ, List.getElem_cons_zero]); go_simp <;> (try with_reducible rfl))
                  try simp only [Act.put, List.getElem_toArray, List.getElem_cons_succ, List.getElem_cons_zero, List.setIfInBounds_toArray, List.set_cons_zero, List.set_cons_succ]
                  refine wpAnyH_take (i := 2) (v := ?_) rfl (by kernel_rfl) (by kernel_rfl) (by kernel_rfl) (fun _ _ _ h => h) (Or.inl ⟨by rfl, ?_⟩) (by assumption) ?_
                  rotate_left 1
                  · (intro w hSw; (try dsimp only at hSw); (try simp only [List.getElem_toArray, List.getElem_cons_succ, List.getElem_cons_zero]); go_simp <;> (try with_reducible rfl))
                  try simp only [Act.put, List.getElem_toArray, List.getElem_cons_succ, List.getElem_cons_zero, List.setIfInBounds_toArray, List.set_cons_zero, List.set_cons_succ]
                  refine wpAnyH_take (i := 3) (v := ?_) rfl (by kernel_rfl) (by kernel_rfl) (by kernel_rfl) (fun _ _ _ h => h) (Or.inl ⟨by rfl, ?_⟩) (by assumption) ?_
                  rotate_left 1
                  · (intro w hSw; (try dsimp only at hSw); (try simp only [List.getElem_toArray, List.getElem_cons_succ, List.getElem_cons_zero]); go_simp <;> (try with_reducible rfl))
                  try simp only [Act.put, List.getElem_toArray, List.getElem_cons_succ, List.getElem_cons_zero, List.setIfInBounds_toArray, List.set_cons_zero, List.set_cons_succ]
                  refine wpAnyH_ready (rs := [4]) (by kernel_rfl) (by simp) ?_
                  refine AllReadyH.cons rfl (fun K hK => ?_) AllReadyH.nil
                  go_simp
                  refine (HOT.out Wb.drew).mono ?_
                  rintro e w2 ⟨rfl, hb2⟩
                  have HB2 : Hid (Below Wb.heap.size Wb w2) := Lib.hid (((Below.refl _ Wb).drew).trans (hb2.mono (Nat.le_refl _)))
                  have HO2 : Hid (Only G Wb w2) := Lib.hid (Only.of_below HB2.out G)
                  clear hb2
                  go_wp2_with fail
                  refine hK.out _ _ (HKP.out _ HO2.out) (fun hHeld => ?_)
                  clear hK K
                  try simp only [Act.put, List.getElem_toArray, List.getElem_cons_succ, List.getElem_cons_zero, List.setIfInBounds_toArray, List.set_cons_zero, List.set_cons_succ]
                  refine wpAnyH_ready (rs := [5]) (by kernel_rfl) (by simp) ?_
                  refine AllReadyH.cons rfl (fun K hK => ?_) AllReadyH.nil
                  go_simp
                  refine (HSC.out w2 HB2.out).mono ?_
                  rintro e w3 hc
                  have HO3 : Hid (Only G Wb w3) := Lib.hid (HO2.out.trans hc.2.2 fun _ h => .inl h)
                  obtain ⟨he3, hrs3⟩ := (HRB1.out.far HB2.out).out_ hc
                  obtain ⟨q3, hq3⟩ : ∃ q, q = (s1.sync ns).2 := ⟨_, rfl⟩
                  dsimp only at he3
                  rw [← hq3] at he3
                  subst he3
                  have HRS3 := Lib.hid hrs3
                  clear hc hrs3 hq3
                  go_wp2_with fail
                  refine hK.out _ _ (HKP.out _ HO3.out) (fun hHeld => ?_)
                  clear hK K
                  try simp only [Act.put, List.getElem_toArray, List.getElem_cons_succ, List.getElem_cons_zero, List.setIfInBounds_toArray, List.set_cons_zero, List.set_cons_succ]
                  refine wpAnyH_take (i := 6) (v := ?_) rfl (by kernel_rfl) (by kernel_rfl) (by kernel_rfl) (fun _ _ _ h => h) (Or.inl ⟨by rfl, ?_⟩) (by assumption) ?_
                  rotate_left 1
                  · (intro w hSw; (try dsimp only at hSw); (try simp only [List.getElem_toArray, List.getElem_cons_succ, List.getElem_cons_zero]); go_simp <;> (try with_reducible rfl))
                  try simp only [Act.put, List.getElem_toArray, List.getElem_cons_succ, List.getElem_cons_zero, List.setIfInBounds_toArray, List.set_cons_zero, List.set_cons_succ]
                  refine wpAnyH_done (by kernel_rfl) ?_ _
                  go_wp2_with fail
                  go_meet
                  case rel => exact ⟨⟨_, rfl⟩, Lib.hid (by rw [HSTV.out]), Lib.hid (by rw [HSTV.out]; exact ⟨_, Z, bv1, av1, wv1, an, HRS3.out, hb3⟩)⟩
                have k3b : (kd == 3) = false := beq_eq_false_iff_ne.2 k3
                have K3 : Hid (a.kind ≠ 3) := Lib.hid (by rw [← HKD.out]; exact k3)
                by_cases k4 : kd = 4
                · subst k4
                  have K4 : Hid (a.kind = 4) := Lib.hid HKD.out.symm
                  obtain ⟨er, her⟩ : ∃ er, er = a.err := ⟨_, rfl⟩
                  rw [← her] at b3
                  have HER := Lib.hid her
                  clear her
                  by_cases e0 : er = 0
                  · have e0b : (er != 0) = false := by rw [e0]; rfl
                    have HSTV : Hid (st = (s1, ou, whole, none)) := Lib.hid (by rw [HST.out]; unfold Disk.St.actStep; rw [if_neg K0.out, if_neg K1.out, if_neg K2.out, if_neg K3.out, if_pos K4.out, if_neg (by rw [← HER.out, e0]; simp)])
                    clear e0
                    go_wp2_with fail
                    go_meet
                    case rel => exact ⟨⟨_, rfl⟩, Lib.hid (by rw [HSTV.out]), Lib.hid (by rw [HSTV.out]; exact ⟨G, Z, bv1, av1, wv1, an, HRB1.out, hb3⟩)⟩
                  · have e0b : (er != 0) = true := bne_iff_ne.2 e0
                    have HSTV : Hid (st = (s1, ou, whole, some er)) := Lib.hid (by rw [HST.out]; unfold Disk.St.actStep; rw [if_neg K0.out, if_neg K1.out, if_neg K2.out, if_neg K3.out, if_pos K4.out, if_pos (by rw [← HER.out]; exact e0), HER.out])
                    have HRV : Hid (R = (s1, ou, whole, er)) := Lib.hid (by rw [HR1.out, Disk.runGo_stop hjl (q := er) (by rw [← HAJ.out, ← HST.out, HSTV.out]), ← HAJ.out, ← HST.out, HSTV.out])
                    go_wp2_with fail
                    go_ret
                    rw [HRV.out]
                    exact ⟨rfl, G, Z, bv1, av1, wv1, an, HRB1.out⟩
                have k4b : (kd == 4) = false := beq_eq_false_iff_ne.2 k4
                have K4 : Hid (a.kind ≠ 4) := Lib.hid (by rw [← HKD.out]; exact k4)
                by_cases k5 : kd = 5
                · subst k5
                  have K5 : Hid (a.kind = 5) := Lib.hid HKD.out.symm
                  obtain ⟨Fo, Xo, Ao, co, cnto, hOB⟩ := HRB1.out.out
                  have HEA := Lib.hid (err_any (Lib.hid hOB))
                  obtain ⟨er, her⟩ : ∃ er, er = ou.err := ⟨_, rfl⟩
                  rw [← her] at HEA
                  have HER := Lib.hid her
                  clear her hOB
                  by_cases e0 : er = 0
                  · have e0b : (er != 0) = false := by rw [e0]; rfl
                    have HSTV : Hid (st = (s1, ou, whole, none)) := Lib.hid (by rw [HST.out]; unfold Disk.St.actStep; rw [if_neg K0.out, if_neg K1.out, if_neg K2.out, if_neg K3.out, if_neg K4.out, if_pos K5.out, if_neg (by rw [← HER.out, e0]; simp)])
                    clear e0
                    go_wp2_with fail
                    refine HEA.out.mono ?_
                    rintro e w2 ⟨rfl, rfl⟩
                    go_wp2_with fail
                    go_meet
                    case rel => exact ⟨⟨_, rfl⟩, Lib.hid (by rw [HSTV.out]), Lib.hid (by rw [HSTV.out]; exact ⟨G, Z, bv1, av1, wv1, an, HRB1.out, hb3⟩)⟩
                  · have e0b : (er != 0) = true := bne_iff_ne.2 e0
                    have HSTV : Hid (st = (s1, ou, whole, some er)) := Lib.hid (by rw [HST.out]; unfold Disk.St.actStep; rw [if_neg K0.out, if_neg K1.out, if_neg K2.out, if_neg K3.out, if_neg K4.out, if_pos K5.out, if_pos (by rw [← HER.out]; exact e0), HER.out])
                    have HRV : Hid (R = (s1, ou, whole, er)) := Lib.hid (by rw [HR1.out, Disk.runGo_stop hjl (q := er) (by rw [← HAJ.out, ← HST.out, HSTV.out]), ← HAJ.out, ← HST.out, HSTV.out])
                    go_wp2_with fail
                    refine HEA.out.mono ?_
                    rintro e w2 ⟨rfl, rfl⟩
                    go_wp2_with fail
                    refine HEA.out.mono ?_
                    rintro e w2 ⟨rfl, rfl⟩
                    go_wp2_with fail
                    go_ret
                    rw [HRV.out]
                    exact ⟨rfl, G, Z, bv1, av1, wv1, an, HRB1.out⟩
                have k5b : (kd == 5) = false := beq_eq_false_iff_ne.2 k5
                have HSTV : Hid (st = (s1, ou, whole, none)) := Lib.hid (by rw [HST.out]; unfold Disk.St.actStep; rw [if_neg K0.out, if_neg K1.out, if_neg K2.out, if_neg K3.out, if_neg K4.out, if_neg (by rw [← HKD.out]; exact k5)])
                go_wp2_with fail
                go_meet
                case rel => exact ⟨⟨_, rfl⟩, Lib.hid (by rw [HSTV.out]), Lib.hid (by rw [HSTV.out]; exact ⟨G, Z, bv1, av1, wv1, an, HRB1.out, hb3⟩)⟩
              case rest =>
                obtain ⟨⟨q5, rfl⟩, HNONE, HEX⟩ := hcut
                obtain ⟨G5, Z5, bv5, av5, wv5, an5, hrs5, han5⟩ := HEX.out
                have HRS5 := Lib.hid hrs5
                obtain ⟨A5, n5, c5, rfl, hn5, hnc5, hcm5⟩ := hrs5.rc.ans.form
                have HN5 : Hid (an5.length ≤ 1099511627776) := Lib.hid (by have := HNA.out; have := Disk.wsum_ge acts; omega)
                clear HEX hrs5 b0 b1 b2 b3
                go_upto_region 37 with fail
                have HRS6 := Lib.hid (HRS5.out.far ((Below.refl _ _).drew : Below wc.heap.size wc wc.drew))
                obtain ⟨W6, hW6⟩ : ∃ W6, W6 = (wc.alloc (.cells #[.int .i64 q5] 30)).drew := ⟨_, rfl⟩
                have HB6 : Hid (Below wc.heap.size wc W6) := Lib.hid (by rw [hW6]; exact (Below.alloc (Below.refl _ _) (Nat.le_refl _) _).drew)
                have HRS7 := Lib.hid (HRS5.out.far HB6.out)
                have HW6 := Lib.hid hW6
                have HS5 := Lib.hid (HLD.out _ HRS6.out.only).1
                have HS7 := Lib.hid (HLD.out _ HRS7.out.only).1
                have y5 : wc.drew.cell? ⟨x, 2, none⟩ = some (.slice A5 n5 c5) := HRS6.out.rc.cell 2
                have y6 : W6.cell? ⟨x, 2, none⟩ = some (.slice A5 n5 c5) := HRS7.out.rc.cell 2
                have HNEW : Hid (SliceAt Rep.one1 W6 (fun b => b < W6.heap.size) (some ⟨wc.heap.size, 0, none⟩) 1 [.int .i64 q5]) := Lib.hid (by
                  rw [hW6]
                  exact ((SliceAt.newRow Rep.one1 wc 30 #[.int .i64 q5] [.int .i64 q5] nob 1 1 rfl (Nat.le_refl _) (by decide) (fun i hi => by
                    match i, hi with
                    | 0, _ => exact ⟨rfl, rfl⟩) fun _ h => h.elim).drewN 1).up fun b hb => by
                      rcases hb with rfl | hb
                      · simp [World.drew]
                      · exact hb.elim)
                clear hW6
                refine wp_region_held_drew (S := fun u => u.cell? ⟨rB, 0, none⟩ = some (.pointer (some ⟨x, 0, none⟩))) (by kernel_rfl) HS5.out (fun hHeld => ?_)
                refine wpAnyH_take (i := 0) (v := ?_) rfl (by kernel_rfl) (by kernel_rfl) (by kernel_rfl) (fun _ _ _ h => h) (Or.inl ⟨by rfl, ?_⟩) (by assumption) ?_
                rotate_left 1
                · (intro w hSw; (try dsimp only at hSw); (try simp only [List.getElem_toArray, List.getElem_cons_succ, List.getElem_cons_zero]); go_simp <;> (try with_reducible rfl))
                try simp only [Act.put, List.getElem_toArray, List.getElem_cons_succ, List.getElem_cons_zero, List.setIfInBounds_toArray, List.set_cons_zero, List.set_cons_succ]
                refine wpAnyH_take (i := 1) (v := ?_) rfl (by kernel_rfl) (by kernel_rfl) (by kernel_rfl) (fun _ _ _ h => h) (Or.inl ⟨by rfl, ?_⟩) (by assumption) ?_
                rotate_left 1
                · (intro w hSw; (try dsimp only at hSw); (try simp only [List.getElem_toArray, List.getElem_cons_succ, List.getElem_cons_zero]); go_simp <;> (try with_reducible rfl))
                try simp only [Act.put, List.getElem_toArray, List.getElem_cons_succ, List.getElem_cons_zero, List.setIfInBounds_toArray, List.set_cons_zero, List.set_cons_succ]
                refine wpAnyH_take (i := 2) (v := ?_) rfl (by kernel_rfl) (by kernel_rfl) (by kernel_rfl) (fun _ _ _ h => h) (Or.inl ⟨by rfl, ?_⟩) (by assumption) ?_
                rotate_left 1
                · (intro w hSw; (try dsimp only at hSw); (try simp only [List.getElem_toArray, List.getElem_cons_succ, List.getElem_cons_zero]); go_simp <;> (try with_reducible rfl))
                try simp only [Act.put, List.getElem_toArray, List.getElem_cons_succ, List.getElem_cons_zero, List.setIfInBounds_toArray, List.set_cons_zero, List.set_cons_succ]
                refine wpAnyH_take (i := 3) (v := ?_) rfl (by kernel_rfl) (by kernel_rfl) (by kernel_rfl) (fun _ _ _ h => h) (Or.inl ⟨by rfl, ?_⟩) (by assumption) ?_
                rotate_left 1
                · (intro w hSw; (try dsimp only at hSw); (try simp only [List.getElem_toArray, List.getElem_cons_succ, List.getElem_cons_zero]); go_simp <;> (try with_reducible rfl))
                try simp only [Act.put, List.getElem_toArray, List.getElem_cons_succ, List.getElem_cons_zero, List.setIfInBounds_toArray, List.set_cons_zero, List.set_cons_succ]
                refine wpAnyH_take (i := 5) (v := ?_) rfl (by kernel_rfl) (by kernel_rfl) (by kernel_rfl) (fun _ _ _ h => h) (Or.inl ⟨by rfl, ?_⟩) (by assumption) ?_
                rotate_left 1
                · (intro w hSw; (try dsimp only at hSw); (try simp only [List.getElem_toArray, List.getElem_cons_succ, List.getElem_cons_zero]); go_simp <;> (try with_reducible rfl))
                try simp only [Act.put, List.getElem_toArray, List.getElem_cons_succ, List.getElem_cons_zero, List.setIfInBounds_toArray, List.set_cons_zero, List.set_cons_succ]
                refine wpAnyH_ready (rs := [4, 6]) (by kernel_rfl) (by simp) ?_
                refine AllReadyH.cons rfl (fun K hK => ?_) (AllReadyH.cons rfl (fun K hK => ?_) AllReadyH.nil)
                · go_simp
                  refine hK.out _ _ HS5.out (fun hHeld => ?_)
                  clear hK K
                  try simp only [Act.put, List.getElem_toArray, List.getElem_cons_succ, List.getElem_cons_zero, List.setIfInBounds_toArray, List.set_cons_zero, List.set_cons_succ]
                  refine wpAnyH_ready (rs := [6]) (by kernel_rfl) (by simp) ?_
                  refine AllReadyH.cons rfl (fun K hK => ?_) AllReadyH.nil
                  go_simp
                  rw [← HW6.out]
                  refine hK.out _ _ HS7.out (fun hHeld => ?_)
                  clear hK K
                  try simp only [Act.put, List.getElem_toArray, List.getElem_cons_succ, List.getElem_cons_zero, List.setIfInBounds_toArray, List.set_cons_zero, List.set_cons_succ]
                  refine wpAnyH_ready (rs := [7]) (by kernel_rfl) (by simp) ?_
                  refine AllReadyH.cons rfl (fun K hK => ?_) AllReadyH.nil
                  refine step_append_Own rfl (.tmp 161) (.tmp 163) 52 rfl Rep.one1 0 30 8 stErrs nob (.slice A5 n5 c5) an5 (by simp [Act.eval]) HRS7.out.rc.ans _ (some ⟨wc.heap.size, 0, none⟩) 1 [.int .i64 q5] (by simp [Act.eval]) HNEW.out nob (fun _ h => h.elim) (fun _ h => h) (fun _ _ h => h) (by simp only [List.length_cons, List.length_nil]; have := HN5.out; omega) (by simp only [List.length_cons, List.length_nil]; have := HN5.out; omega) (Nat.zero_le _) ?_
                  intro v8 w8 hown8 hg8 hat8
                  obtain ⟨A8, n8, c8, rfl, -, -, -⟩ := hown8.form
                  have hx8 := HRS7.out.rc.stay hg8 (HRS7.out.rc.ne HRS7.out.rc.ans (by decide))
                  have ho8 := HRS7.out.mid (Only.of_grown hg8 Z5 fun b hb => HRS7.out.rc.za b hb.symm)
                  obtain ⟨hrr, hor⟩ := HRS7.out.rc.setAns (u := .int .i64 q5) hown8 hg8 (hat8.imp id fun e => ⟨_, e, Nat.le_refl _⟩)
                  have HRS9 := Lib.hid (HRS7.out.rec_ hrr hor fun b hb => hb.imp id (·.1))
                  have HS8 := Lib.hid (HLD.out _ ho8).1
                  have y2 : w8.cell? ⟨x, 2, none⟩ = some (.slice A5 n5 c5) := (cell_of_row w8 x 2 _ _ (0, 0) hx8).trans rfl
                  have yf : w8.frozen? ⟨x, 2, none⟩ = false := by simp [World.frozen?, hx8]
                  clear hown8 hg8 hat8 hx8 ho8 hrr hor
                  refine hK.out _ _ HS8.out (fun hHeld => ?_)
                  clear hK K
                  try simp only [Act.put, List.getElem_toArray, List.getElem_cons_succ, List.getElem_cons_zero, List.setIfInBounds_toArray, List.set_cons_zero, List.set_cons_succ]
                  refine wpAnyH_take (i := 8) (v := ?_) rfl (by kernel_rfl) (by kernel_rfl) (by kernel_rfl) (fun _ _ _ h => h) (Or.inl ⟨by rfl, ?_⟩) (by assumption) ?_
                  rotate_left 1
                  · (intro w hSw; (try dsimp only at hSw); (try simp only [List.getElem_toArray, List.getElem_cons_succ, List.getElem_cons_zero]); go_simp <;> (try with_reducible rfl))
                  try simp only [Act.put, List.getElem_toArray, List.getElem_cons_succ, List.getElem_cons_zero, List.setIfInBounds_toArray, List.set_cons_zero, List.set_cons_succ]
                  refine wpAnyH_take (i := 9) (v := ?_) rfl (by kernel_rfl) (by kernel_rfl) (by kernel_rfl) (fun _ _ _ h => h) (Or.inl ⟨by rfl, ?_⟩) (by assumption) ?_
                  rotate_left 1
                  · (intro w hSw; (try dsimp only at hSw); (try simp only [List.getElem_toArray, List.getElem_cons_succ, List.getElem_cons_zero]); go_simp <;> (try with_reducible rfl))
                  try simp only [Act.put, List.getElem_toArray, List.getElem_cons_succ, List.getElem_cons_zero, List.setIfInBounds_toArray, List.set_cons_zero, List.set_cons_succ]
                  refine wpAnyH_ready (rs := [10]) (by kernel_rfl) (by simp) ?_
                  refine AllReadyH.cons rfl (fun K hK => ?_) AllReadyH.nil
                  have HS9 := Lib.hid (HLD.out _ HRS9.out.only).1
                  go_simp
                  refine hK.out _ _ HS9.out (fun hHeld => ?_)
                  clear hK K
                  try simp only [Act.put, List.getElem_toArray, List.getElem_cons_succ, List.getElem_cons_zero, List.setIfInBounds_toArray, List.set_cons_zero, List.set_cons_succ]
                  refine wpAnyH_done (by kernel_rfl) ?_ _
                  go_wp2_with fail
                  go_roundg (n - (j + 1))
                  case measure => omega
                  case rel =>
                    have hk6 := Disk.small_step (c := C.name.data.toList) (t := t) (ou := ou) (w := whole) (a := a) HK1.out
                    have hh6 := Disk.held_step (s := s1) (c := C.name.data.toList) (t := t) (ou := ou) (w := whole) (a := a)
                    have hw6 := Disk.whole_step (s := s1) (c := C.name.data.toList) (t := t) (ou := ou) (w := whole) (a := a)
                    have hf6 := Disk.fine_step (c := C.name.data.toList) (t := t) (ou := ou) (w := whole) (a := a) HF1.out
                    rw [← HST.out] at hk6 hh6 hw6 hf6
                    refine ⟨j + 1, by omega, by go_num, rfl, Lib.hid ⟨st.1, st.2.1, st.2.2.1, _, _, _, _, _, _, HRS9.out, ?_, hf6, by rw [hws, ← Nat.add_assoc]; exact hk6, by rw [hws]; omega, by rw [hws]; omega, by simp only [List.length_append, List.length_cons, List.length_nil]; omega⟩⟩
                    rw [HR1.out, Disk.runGo_next hjl (by rw [← HAJ.out, ← HST.out, HNONE.out]), ← HAJ.out, ← HST.out]
                · go_simp
                  rw [← HW6.out]
                  refine hK.out _ _ HS7.out (fun hHeld => ?_)
                  clear hK K
                  try simp only [Act.put, List.getElem_toArray, List.getElem_cons_succ, List.getElem_cons_zero, List.setIfInBounds_toArray, List.set_cons_zero, List.set_cons_succ]
                  refine wpAnyH_ready (rs := [4]) (by kernel_rfl) (by simp) ?_
                  refine AllReadyH.cons rfl (fun K hK => ?_) AllReadyH.nil
                  go_simp
                  refine hK.out _ _ HS7.out (fun hHeld => ?_)
                  clear hK K
                  try simp only [Act.put, List.getElem_toArray, List.getElem_cons_succ, List.getElem_cons_zero, List.setIfInBounds_toArray, List.set_cons_zero, List.set_cons_succ]
                  refine wpAnyH_ready (rs := [7]) (by kernel_rfl) (by simp) ?_
                  refine AllReadyH.cons rfl (fun K hK => ?_) AllReadyH.nil
                  refine step_append_Own rfl (.tmp 161) (.tmp 163) 52 rfl Rep.one1 0 30 8 stErrs nob (.slice A5 n5 c5) an5 (by simp [Act.eval]) HRS7.out.rc.ans _ (some ⟨wc.heap.size, 0, none⟩) 1 [.int .i64 q5] (by simp [Act.eval]) HNEW.out nob (fun _ h => h.elim) (fun _ h => h) (fun _ _ h => h) (by simp only [List.length_cons, List.length_nil]; have := HN5.out; omega) (by simp only [List.length_cons, List.length_nil]; have := HN5.out; omega) (Nat.zero_le _) ?_
                  intro v8 w8 hown8 hg8 hat8
                  obtain ⟨A8, n8, c8, rfl, -, -, -⟩ := hown8.form
                  have hx8 := HRS7.out.rc.stay hg8 (HRS7.out.rc.ne HRS7.out.rc.ans (by decide))
                  have ho8 := HRS7.out.mid (Only.of_grown hg8 Z5 fun b hb => HRS7.out.rc.za b hb.symm)
                  obtain ⟨hrr, hor⟩ := HRS7.out.rc.setAns (u := .int .i64 q5) hown8 hg8 (hat8.imp id fun e => ⟨_, e, Nat.le_refl _⟩)
                  have HRS9 := Lib.hid (HRS7.out.rec_ hrr hor fun b hb => hb.imp id (·.1))
                  have HS8 := Lib.hid (HLD.out _ ho8).1
                  have y2 : w8.cell? ⟨x, 2, none⟩ = some (.slice A5 n5 c5) := (cell_of_row w8 x 2 _ _ (0, 0) hx8).trans rfl
                  have yf : w8.frozen? ⟨x, 2, none⟩ = false := by simp [World.frozen?, hx8]
                  clear hown8 hg8 hat8 hx8 ho8 hrr hor
                  refine hK.out _ _ HS8.out (fun hHeld => ?_)
                  clear hK K
                  try simp only [Act.put, List.getElem_toArray, List.getElem_cons_succ, List.getElem_cons_zero, List.setIfInBounds_toArray, List.set_cons_zero, List.set_cons_succ]
                  refine wpAnyH_take (i := 8) (v := ?_) rfl (by kernel_rfl) (by kernel_rfl) (by kernel_rfl) (fun _ _ _ h => h) (Or.inl ⟨by rfl, ?_⟩) (by assumption) ?_
                  rotate_left 1
                  · (intro w hSw; (try dsimp only at hSw); (try simp only [List.getElem_toArray, List.getElem_cons_succ, List.getElem_cons_zero]); go_simp <;> (try with_reducible rfl))
                  try simp only [Act.put, List.getElem_toArray, List.getElem_cons_succ, List.getElem_cons_zero, List.setIfInBounds_toArray, List.set_cons_zero, List.set_cons_succ]
                  refine wpAnyH_take (i := 9) (v := ?_) rfl (by kernel_rfl) (by kernel_rfl) (by kernel_rfl) (fun _ _ _ h => h) (Or.inl ⟨by rfl, ?_⟩) (by assumption) ?_
                  rotate_left 1
                  · (intro w hSw; (try dsimp only at hSw); (try simp only [List.getElem_toArray, List.getElem_cons_succ, List.getElem_cons_zero]); go_simp <;> (try with_reducible rfl))
                  try simp only [Act.put, List.getElem_toArray, List.getElem_cons_succ, List.getElem_cons_zero, List.setIfInBounds_toArray, List.set_cons_zero, List.set_cons_succ]
                  refine wpAnyH_ready (rs := [10]) (by kernel_rfl) (by simp) ?_
                  refine AllReadyH.cons rfl (fun K hK => ?_) AllReadyH.nil
                  have HS9 := Lib.hid (HLD.out _ HRS9.out.only).1
                  go_simp
                  refine hK.out _ _ HS9.out (fun hHeld => ?_)
                  clear hK K
                  try simp only [Act.put, List.getElem_toArray, List.getElem_cons_succ, List.getElem_cons_zero, List.setIfInBounds_toArray, List.set_cons_zero, List.set_cons_succ]
                  refine wpAnyH_done (by kernel_rfl) ?_ _
                  go_wp2_with fail
                  go_roundg (n - (j + 1))
                  case measure => omega
                  case rel =>
                    have hk6 := Disk.small_step (c := C.name.data.toList) (t := t) (ou := ou) (w := whole) (a := a) HK1.out
                    have hh6 := Disk.held_step (s := s1) (c := C.name.data.toList) (t := t) (ou := ou) (w := whole) (a := a)
                    have hw6 := Disk.whole_step (s := s1) (c := C.name.data.toList) (t := t) (ou := ou) (w := whole) (a := a)
                    have hf6 := Disk.fine_step (c := C.name.data.toList) (t := t) (ou := ou) (w := whole) (a := a) HF1.out
                    rw [← HST.out] at hk6 hh6 hw6 hf6
                    refine ⟨j + 1, by omega, by go_num, rfl, Lib.hid ⟨st.1, st.2.1, st.2.2.1, _, _, _, _, _, _, HRS9.out, ?_, hf6, by rw [hws, ← Nat.add_assoc]; exact hk6, by rw [hws]; omega, by rw [hws]; omega, by simp only [List.length_append, List.length_cons, List.length_nil]; omega⟩⟩
                    rw [HR1.out, Disk.runGo_next hjl (by rw [← HAJ.out, ← HST.out, HNONE.out]), ← HAJ.out, ← HST.out]
          · obtain rfl : j = n := by omega
            have HRV : Hid (R = (s1, ou, whole, 0)) := Lib.hid (by rw [HR1.out, HNA.out, List.drop_length]; rfl)
            go_wp2_with fail
            go_ret
            rw [HRV.out]
            exact ⟨rfl, G, Z, bv1, av1, wv1, an, HRS.out⟩
end
end Go.Proofs.Ytfommpbblpnljaa
