/- Texts that lead to the claim, one behind the other: galleylaw30.InplaceWhole: the walk. Condition: what is handed in lies within reach. -/
import Derived.Test.YtfommpbblpnljaaWH46
import Derived.Test.YtfommpbblpnljaaWH20
import Derived.Test.YtfommpbblpnljaaWH18
import Derived.Test.YtfommpbblpnljaaWH24
namespace Go.Proofs.Ytfommpbblpnljaa
open Go.RowKit Go.ChangeShapes Go.WideShapes Go.Deep

/-- A disk of the call's own, and a row of bytes beside it. -/
structure Kb (w0 w : World) (F : Blocks) (d : Nat) (s : Disk.St) (U : Blocks) (A : Option Addr) (c : Nat) (l : List UInt8) : Prop where
  kd : Kd w0 w F d s
  sl : SliceAt Rep.byte w U A c l
  ub : ∀ b, U b → b < w.heap.size ∧ ¬ F b
section
variable {w0 w w' : World} {F : Blocks} {d : Nat} {s t : Disk.St} {U : Blocks} {A : Option Addr} {c : Nat} {l : List UInt8}
theorem Kb.next (h : Kb w0 w F d s U A c l) (h1 : DiskAt w' (grow F w w') d t) (h2 : Only F w w') : Kb w0 w' (grow F w w') d t U A c l :=
  ⟨h.kd.next h1 h2, h.sl.keep (fun _ h => h) (h2.same h.ub), fun b hb => ⟨Nat.lt_of_lt_of_le (h.ub b hb).1 h2.size, fun hg => hg.elim (h.ub b hb).2 fun hg => by have := (h.ub b hb).1; have := hg.1; omega⟩⟩
theorem Kb.call {r : Disk.St × Int} {e : Ending} (h : Kb w0 w F d s U A c l) (hc : DiskCall w F d r e w') : e = .returned (.int .i64 r.2) ∧ Kb w0 w' (grow F w w') d r.1 U A c l := ⟨hc.1, h.next hc.2.1 hc.2.2⟩
theorem Kb.far (h : Kb w0 w F d s U A c l) (hb : Below w.heap.size w w') : Kb w0 w' F d s U A c l :=
  ⟨h.kd.far hb, h.sl.keep (fun _ h => h) (Same.of_below hb fun b hu => (h.ub b hu).1), fun b hu => ⟨Nat.lt_of_lt_of_le (h.ub b hu).1 hb.size, (h.ub b hu).2⟩⟩
end
def smallK (i : Nat) : Nat := 34359738368 + i * 80
theorem smallK_le {i : Nat} (h : i ≤ 65536) : smallK i ≤ 40000000000 := by unfold smallK; omega
theorem smallK_next (i : Nat) : smallK (i + 1) = smallK i + 80 := by unfold smallK; omega
theorem tdiv8 {cz : Int} (h : (Lit.int .i64 cz).wf = true) : IntKind.i64.wrap (cz.tdiv 8) = cz.tdiv 8 ∧ IntKind.i64.wrap (cz.tmod 8) = cz.tmod 8 ∧ -8 < cz.tmod 8 ∧ cz.tmod 8 < 8 := by
  simp [Lit.wf, IntKind.min, IntKind.max, IntKind.signed, IntKind.bits] at h
  have h1 := Int.mul_tdiv_add_tmod cz 8
  have h2 := Int.tmod_lt_of_pos cz (b := 8) (by omega)
  have h3 := Int.lt_tmod_of_pos cz (b := 8) (by omega)
  generalize cz.tmod 8 = r at h1 h2 h3 ⊢
  generalize cz.tdiv 8 = q at h1 ⊢
  have a1 : -9223372036854775808 ≤ q := by omega
  have a2 : q ≤ 9223372036854775807 := by omega
  have a3 : -9223372036854775808 ≤ r := by omega
  have a4 : r ≤ 9223372036854775807 := by omega
  exact ⟨IntWalk.i64_in q ⟨a1, a2⟩, IntWalk.i64_in r ⟨a3, a4⟩, by omega, by omega⟩
theorem five30 {w : World} {g o : Nat} {v0 : Value} (h : CellsAt w g o [v0]) : w.cell? ⟨g, o, none⟩ = some v0 := h 0 _ rfl
section
variable {w : World}
set_option linter.unusedSimpArgs false in
set_option maxRecDepth 100000 in
set_option maxHeartbeats 16000000 in
theorem inplaceWhole_law (C : CaseP) (fs : List Disk.Fin_) (fl : List (Int × Int)) (acts : List Disk.ActV) (keep : List Int) (cuts : List Int) (cA : Option Addr) (cn cc : Nat) (hn : Hid (C.fn = fs.length)) (hm : Hid (C.ln = fl.length)) (ha : Hid (C.an = acts.length)) (hkn : Hid (C.kn = keep.length))
    (h1 : Hid (SliceAt Rep.fin w (under w.heap.size) C.fA C.fc fs)) (h2 : Hid (SliceAt Rep.fault w (under w.heap.size) C.lA C.lc fl)) (h3 : Hid (SliceAt Rep.actv w (under w.heap.size) C.aA C.ac acts)) (h4 : Hid (SliceAt (Rep.int .i64) w (under w.heap.size) C.kA C.kc keep))
    (hf : Hid (∀ f ∈ fs, finReach30 f)) (hac : Hid (∀ a ∈ acts, actReach30 a)) (hb1 : C.fn ≤ 281474976710656) (hb2 : C.an ≤ 281474976710656) (hb3 : C.ln ≤ 281474976710656) (hb4 : C.kn ≤ 281474976710656) (hb5 : C.name.size ≤ 281474976710656) (hcn : Hid (cn = cuts.length)) (h5 : Hid (SliceAt (Rep.int .i64) w (under w.heap.size) cA cc cuts)) (hb6 : cn ≤ 281474976710656) :
    Calls Try.prog 5 #[C.val, .slice cA cn cc] w fun e w' => e = .returned (.bool true) ∧ Below w.heap.size w w' := by
  have hcc : cn ≤ cc := by rw [hcn.out]; exact h5.out.len
  have hccm := h5.out.max
  have hlc : C.ln ≤ C.lc ∧ C.lc ≤ 9223372036854775807 := ⟨by rw [hm.out]; exact h2.out.len, h2.out.max⟩
  have hkc : C.kn ≤ C.kc ∧ C.kc ≤ 9223372036854775807 := ⟨by rw [hkn.out]; exact h4.out.len, h4.out.max⟩
  have hfc : C.fn ≤ C.fc ∧ C.fc ≤ 9223372036854775807 := ⟨by rw [hn.out]; exact h1.out.len, h1.out.max⟩
  obtain ⟨W, hW⟩ : ∃ W, W = w.alloc (.cells C.cells 41) := ⟨_, rfl⟩
  have hbW : Below w.heap.size w W := by rw [hW]; exact Below.alloc (Below.refl _ _) (Nat.le_refl _) _
  have hbox : W.heap[w.heap.size]? = some (.cells C.cells 41 (0, 0)) := by rw [hW]; exact heap_alloc_new _ _
  have hwlt : w.heap.size < W.heap.size := (Array.getElem?_eq_some_iff.1 hbox).1
  have HBX : Hid (∀ u, Below W.heap.size W u → u.cell? ⟨w.heap.size, 0, none⟩ = some (.int .i64 C.room) ∧ u.cell? ⟨w.heap.size, 1, none⟩ = some (.slice C.fA C.fn C.fc) ∧ u.cell? ⟨w.heap.size, 2, none⟩ = some (.slice C.lA C.ln C.lc) ∧ u.cell? ⟨w.heap.size, 3, none⟩ = some (.string C.name) ∧ u.cell? ⟨w.heap.size, 4, none⟩ = some (.slice C.aA C.an C.ac) ∧ u.cell? ⟨w.heap.size, 5, none⟩ = some (.int .i64 C.dir) ∧ u.cell? ⟨w.heap.size, 6, none⟩ = some (.slice C.kA C.kn C.kc)) := Lib.hid fun u hu => seven30 C ((hu.block _ hwlt).trans hbox)
  have HUL : Hid (∀ b, under w.heap.size b → b < W.heap.size) := Lib.hid fun b h => Nat.lt_trans h hwlt
  have HSM : Hid (∀ u, Below W.heap.size W u → Same (under w.heap.size) w u) := Lib.hid fun u hu => (Same.of_below hbW fun _ h => h).trans (Same.of_below hu fun _ h => Nat.lt_trans h hwlt)
  have H1 : Hid (∀ u, Below W.heap.size W u → SliceAt Rep.fin u (under w.heap.size) C.fA C.fc fs) := Lib.hid fun u hu => h1.out.keep (fun _ h => h) (HSM.out u hu)
  have H2 : Hid (∀ u, Below W.heap.size W u → SliceAt Rep.fault u (under w.heap.size) C.lA C.lc fl) := Lib.hid fun u hu => h2.out.keep (fun _ h => h) (HSM.out u hu)
  have H3 : Hid (∀ u, Below W.heap.size W u → SliceAt Rep.actv u (under w.heap.size) C.aA C.ac acts) := Lib.hid fun u hu => h3.out.keep (fun _ h => h) (HSM.out u hu)
  have H4 : Hid (∀ u, Below W.heap.size W u → SliceAt (Rep.int .i64) u (under w.heap.size) C.kA C.kc keep) := Lib.hid fun u hu => h4.out.keep (fun _ h => h) (HSM.out u hu)
  have H5 : Hid (∀ u, Below W.heap.size W u → SliceAt (Rep.int .i64) u (under w.heap.size) cA cc cuts) := Lib.hid fun u hu => h5.out.keep (fun _ h => h) (HSM.out u hu)
  have hback : Hid (∀ u, Below W.heap.size W u → Below w.heap.size w u) := Lib.hid fun u hu => hbW.trans (hu.mono (Nat.le_of_lt hwlt))
  have HBY := Lib.hid (beyond30_any (w := W) C fs acts (under w.heap.size) hn ha (Lib.hid (H1.out W (Below.refl _ _))) (Lib.hid (H3.out W (Below.refl _ _))) HUL hf hac hb1 hb2 hb3 hb4 hb5 hlc hkc)
  obtain ⟨N, hN⟩ : ∃ N : Disk.Nm, N = C.name.data.toList := ⟨_, rfl⟩
  have HN := Lib.hid hN
  have HW := Lib.hid hW
  clear hbW hbox hwlt HSM hW hN
  obtain ⟨c0, c1, c2, c3, c4, c5, c6⟩ := HBX.out W (Below.refl _ _)
  obtain ⟨hlc1, hlc2⟩ := hlc
  obtain ⟨hkc1, hkc2⟩ := hkc
  obtain ⟨hfc1, hfc2⟩ := hfc
  unfold CaseP.val at HBY ⊢
  unfold CaseP.cells at HBY HW ⊢
  go_enter Try.func5, Try.ntmps5
  go_upto_region 1 with fail
  rw [← HW.out]
  obtain ⟨bx, hbx⟩ : ∃ bx, bx = w.heap.size := ⟨_, rfl⟩
  rw [← hbx] at HBX c0 c1 c2 c3 c4 c5 c6 ⊢
  have HBXE := Lib.hid hbx
  clear hbx
  go_wp2_with fail
  refine HBY.out.mono ?_
  rintro e w1 ⟨b, rfl, hwi, hb1⟩
  have HB1 := Lib.hid hb1
  have HWI := Lib.hid hwi
  clear c0 c1 c2 c3 c4 c5 c6 hb1 hwi HBY
  obtain ⟨c0, c1, c2, c3, c4, c5, c6⟩ := HBX.out w1 HB1.out
  cases b
  case true =>
    go_wp2_with fail
    go_ret
    exact ⟨rfl, hback.out _ HB1.out⟩
  obtain ⟨q1, q2, q3, q4, q5, q6⟩ := (HWI.out rfl).parts
  have HQ6 := Lib.hid q6
  have HWS := Lib.hid ((HWI.out rfl).wsum ha.out)
  clear hb1 hb2 hb3 hb4 hb5 q6 HWI
  go_wp2_with fail
  refine editLives_any.mono ?_
  rintro e w2 ⟨rfl, hb2⟩
  have HB2 := Lib.hid (HB1.out.trans (hb2.mono HB1.out.size))
  clear c0 c1 c2 c3 c4 c5 c6 hb2
  obtain ⟨c0, c1, c2, c3, c4, c5, c6⟩ := HBX.out w2 HB2.out
  have HFR := Lib.hid (from_any (w := w2) C.room C.fA C.fn C.fc fs _ hn (Lib.hid (H1.out w2 HB2.out)) (Lib.hid fun b hb => Nat.lt_of_lt_of_le (HUL.out b hb) HB2.out.size) (Lib.hid fun f hf => by have := HQ6.out f hf; omega))
  go_wp2_with fail
  refine HFR.out.mono ?_
  rintro e w3 hfp
  obtain ⟨p, q, rfl, hfv, hb3⟩ := hfp.v
  have HB3 := Lib.hid (HB2.out.trans (hb3.mono HB2.out.size))
  have HFV := Lib.hid hfv
  have HBT : Hid (∀ b, btw w2.heap.size w3.heap.size b → W.heap.size ≤ b) := Lib.hid fun b hb => Nat.le_trans HB2.out.size hb.1
  clear c0 c1 c2 c3 c4 c5 c6 hb3 hfp hfv HFR
  obtain ⟨c0, c1, c2, c3, c4, c5, c6⟩ := HBX.out w3 HB3.out
  rcases HFV.out with ⟨hq, rfl⟩ | ⟨rfl, he0, d, rfl, hd⟩
  · have hqb : (q != 0) = true := bne_iff_ne.2 hq
    clear hq
    go_wp2_with fail
    go_ret
    exact ⟨rfl, hback.out _ HB3.out⟩
  have HE0 := Lib.hid he0
  obtain ⟨F, hF⟩ : ∃ F, F = btw w2.heap.size w3.heap.size := ⟨_, rfl⟩
  rw [← hF] at hd HBT
  have K0 : Hid (Kd W w3 F d (Disk.fromSt C.room fs)) := Lib.hid ⟨hd, HB3.out, HBT.out⟩
  clear hd hF he0 HFV
  go_wp2_with fail
  go_loopg [8] C.fn (fun k iv wr => ∃ (i : Nat), i ≤ C.fn ∧ iv = .int .i64 i ∧ k = C.fn - i ∧ Hid (∃ m, wr = w3.drewN m) ∧ Hid (∀ f ∈ fs.take i, f.syn = f.bytes.length))
  case atStart => exact ⟨0, Nat.zero_le _, rfl, rfl, Lib.hid ⟨0, rfl⟩, Lib.hid (by simp)⟩
  case round =>
    clear c0 c1 c2 c3 c4 c5 c6
    obtain ⟨i, hi, rfl, rfl, HM, HT⟩ := hrel
    have HB3' : Hid (Below w3.heap.size w3 wr) := Lib.hid (by obtain ⟨m, rfl⟩ := HM.out; exact ⟨rfl, rfl, rfl, Nat.le_refl _, fun _ _ => rfl⟩)
    have HBW := Lib.hid (HB3.out.trans (HB3'.out.mono HB3.out.size))
    obtain ⟨c0, c1, c2, c3, c4, c5, c6⟩ := HBX.out wr HBW.out
    by_cases hin : i < C.fn
    · have hil : i < fs.length := by rw [← hn.out]; exact hin
      obtain ⟨g, o, cs, hA, hg, hcs, P, pc, rfl, hP, -, -⟩ := (H1.out _ HBW.out).at_ hil
      rw [hA] at c1
      obtain ⟨a0, a1, a2, a3⟩ := four30 hcs
      rw [show Rep.fin.n = 4 from rfl] at a0 a1 a2 a3
      obtain ⟨sy, hsy⟩ : ∃ sy, sy = (fs[i]).syn := ⟨_, rfl⟩
      obtain ⟨bl, hbl⟩ : ∃ bl, bl = (fs[i]).bytes.length := ⟨_, rfl⟩
      rw [← hsy] at a2
      rw [← hbl] at a1
      have hbb : bl ≤ 2147483647 := by rw [hbl]; exact HQ6.out _ (List.getElem_mem hil)
      have HSY := Lib.hid hsy
      have HBLE := Lib.hid hbl
      have hii : i ≤ 9223372036854775807 := by omega
      clear hsy hbl hcs hg hA hP a0 a3 c0 c2 c3 c4 c5 c6
      by_cases h24 : sy = (bl : Int)
      · subst h24
        have h24b : ((bl : Int) != (bl : Int)) = false := by simp
        go_upto_region 12 with fail
        go_cut [60] from 47 to 60 (fun v60 wc => v60 = .bool false ∧ Hid (∃ m, wc = w3.drewN m))
        case first =>
          go_region
          go_wp2_with fail
          go_meet
          case rel => exact ⟨rfl, Lib.hid (by obtain ⟨m, rfl⟩ := HM.out; exact ⟨m + 1, rfl⟩)⟩
        case rest =>
        obtain ⟨rfl, HM2⟩ := hcut
        go_wp2_with fail
        go_roundg (C.fn - (i + 1))
        case measure => omega
        case rel => exact ⟨i + 1, by omega, by go_num, rfl, HM2, Lib.hid fun f hf => by
          rw [List.take_succ_eq_append_getElem hil] at hf
          rcases List.mem_append.1 hf with hf | hf
          · exact HT.out f hf
          · rw [List.mem_singleton.1 hf, ← HSY.out, ← HBLE.out]⟩
      · have h24b : (sy != (bl : Int)) = true := bne_iff_ne.2 h24
        clear h24
        go_upto_region 12 with fail
        go_cut [60] from 47 to 60 (fun v60 wc => v60 = .bool true ∧ Hid (∃ m, wc = w3.drewN m))
        case first =>
          go_region
          go_wp2_with fail
          go_meet
          case rel => exact ⟨rfl, Lib.hid (by obtain ⟨m, rfl⟩ := HM.out; exact ⟨m + 1, rfl⟩)⟩
        case rest =>
        obtain ⟨rfl, HM2⟩ := hcut
        go_wp2_with fail
        go_ret
        obtain ⟨m, rfl⟩ := HM2.out
        exact ⟨rfl, hback.out _ (HB3.out.trans ⟨rfl, rfl, rfl, Nat.le_refl _, fun _ _ => rfl⟩)⟩
    · obtain rfl : i = C.fn := by omega
      have HDUR : Hid (∀ f ∈ fs, f.syn = f.bytes.length) := Lib.hid fun f hf => HT.out f (by rw [hn.out, List.take_length]; exact hf)
      have K1 := Lib.hid (K0.out.far HB3'.out)
      clear HM HT K0
      have HBY1 := Lib.hid (bytes30_any (w := wr) C.fA C.fn C.fc fs C.name _ hn (Lib.hid (H1.out wr HBW.out)))
      rw [← HN.out] at HBY1
      obtain ⟨b0, hb0⟩ : ∃ b0, b0 = Disk.bytesF fs N := ⟨_, rfl⟩
      rw [← hb0] at HBY1
      have HB0 := Lib.hid hb0
      obtain ⟨there, hthere⟩ : ∃ b, b = b0.isSome := ⟨_, rfl⟩
      rw [← hthere] at HBY1
      have HTHERE := Lib.hid hthere
      clear hb0 hthere
      go_wp2_with fail
      refine HBY1.out.mono ?_
      rintro e w5 ⟨⟨Ao, mo, co, rfl, hmo, hso⟩, rfl⟩
      have HMO := hmo
      have HSO : Hid (∀ u, Below W.heap.size W u → SliceAt Rep.byte u (under w.heap.size) Ao co (b0.getD [])) := Lib.hid fun u hu => hso.out.keep (fun _ h => h) fun b hb => (hu.block b (HUL.out b hb)).trans (HBW.out.block b (HUL.out b hb)).symm
      obtain ⟨s, hs⟩ : ∃ s, s = ((Disk.fromSt C.room fs).plan_ fl) := ⟨_, rfl⟩
      have HPL := Lib.hid (plan_any (w := wr) C.lA C.ln C.lc fl _ (Lib.hid K1.out.at_) hm (Lib.hid (H2.out wr HBW.out)) (Lib.hid fun b hb => ⟨Nat.lt_of_lt_of_le (HUL.out b hb) HBW.out.size, fun hf => by have := HUL.out b hb; have := K1.out.base b hf; omega⟩) (by omega))
      rw [← hs] at HPL
      have HS := Lib.hid hs
      clear hs hso hmo HBY1
      obtain ⟨ps, qs⟩ := s
      have HS1 : Hid (ps = ((Disk.fromSt C.room fs).plan_ fl).1) := Lib.hid (by rw [← HS.out])
      go_wp2_with fail
      refine HPL.out.mono ?_
      rintro e w4 hc
      obtain ⟨he, hk⟩ := K1.out.call hc
      subst he
      obtain ⟨F4, hF4⟩ : ∃ F4, F4 = grow F wr w4 := ⟨_, rfl⟩
      rw [← hF4] at hk
      have K5 := Lib.hid hk
      have HB5 := Lib.hid hk.below
      clear hc hk hF4 c0 c1 c2 c3 c4 c5 c6 HPL
      obtain ⟨c0, c1, c2, c3, c4, c5, c6⟩ := HBX.out w4 HB5.out
      obtain ⟨w6, hw6⟩ : ∃ w6, w6 = w4.alloc (.cells #[.int .i64 0, .slice none 0 0, .slice none 0 0, .slice none 0 0, .bool true] 54) := ⟨_, rfl⟩
      have k6 := K3.made K5.out K5.out.at_.lt
      rw [← hw6] at k6
      obtain ⟨x, hx⟩ : ∃ x, x = w4.heap.size := ⟨_, rfl⟩
      rw [← hx] at k6
      obtain ⟨Z, hZ⟩ : ∃ Z : Blocks, Z = fun b => b = x := ⟨_, rfl⟩
      rw [← hZ] at k6
      have K6 := Lib.hid k6
      have HW6 := Lib.hid hw6
      have HX := Lib.hid hx
      clear k6 hw6 hx hZ c0 c1 c2 c3 c4 c5 c6
      go_upto_region 17 with fail
      rw [← HW6.out, ← HX.out]
      have HB6 : Hid (Below W.heap.size W w6) := Lib.hid K6.out.kd.below
      have HK6 : Hid (∀ u, Below w6.heap.size w6 u → u.cell? ⟨bx, 0, none⟩ = some (.int .i64 C.room) ∧ u.cell? ⟨bx, 1, none⟩ = some (.slice C.fA C.fn C.fc) ∧ u.cell? ⟨bx, 2, none⟩ = some (.slice C.lA C.ln C.lc) ∧ u.cell? ⟨bx, 3, none⟩ = some (.string C.name) ∧ u.cell? ⟨bx, 4, none⟩ = some (.slice C.aA C.an C.ac) ∧ u.cell? ⟨bx, 5, none⟩ = some (.int .i64 C.dir) ∧ u.cell? ⟨bx, 6, none⟩ = some (.slice C.kA C.kn C.kc)) := Lib.hid fun u hu => HBX.out u (HB6.out.trans (hu.mono HB6.out.size))
      have HFS := Lib.hid (Disk.fine_from HE0.out)
      have HF4 : Hid (Disk.Fine ps) := Lib.hid (by rw [HS1.out]; exact Disk.fine_act HFS.out (.plan fl))
      have HSM4 : Hid (Disk.Small 1 ps) := Lib.hid (by rw [HS1.out]; exact Disk.small_act (Disk.small_from C.room fs) (.plan fl))
      have HED : Hid (∀ u rB cB xB, Below w6.heap.size w6 u → RunBx u rB cB xB x d C → w6.heap.size ≤ rB ∧ w6.heap.size ≤ cB ∧ w6.heap.size ≤ xB → Calls Try.prog 6 #[.pointer (some ⟨d, 0, none⟩), .string C.name, .func (.func 50) #[] #[.pointer (some ⟨rB, 0, none⟩), .pointer (some ⟨cB, 0, none⟩), .pointer (some ⟨xB, 0, none⟩)]] u (EditPost u F4 Z d ps N (Disk.St.runOf N acts) (RecP x (Disk.wholeOf ps N acts)))) := Lib.hid fun u rB cB xB hu hr hq => by
        have k := K6.out.far hu
        obtain ⟨bv, av, wv, an, hrec, han0⟩ := k.rc
        obtain rfl := han0 rfl
        have hFl : ∀ b, F4 b → b < w6.heap.size := K6.out.kd.at_.lt
        have hZl : ∀ b, Z b → b < w6.heap.size := K6.out.lt
        have hbu := HB6.out.trans (hu.mono HB6.out.size)
        have h9 := editC_any (w := u) C acts (under w.heap.size) rB cB xB x (Lib.hid k.kd.at_) HF4 HSM4 (by omega) (by omega) (Lib.hid (by have := Disk.read_len HF4.out C.name.data.toList; omega)) (bv := bv) (av := av) (wv := wv) (Lib.hid hrec) (Lib.hid k.za) (Lib.hid hr) (Lib.hid fun b hb => by
          rcases hb with hb | rfl | rfl | rfl
          · have := HUL.out b hb
            exact ⟨Nat.lt_of_lt_of_le this hbu.size, fun h => h.elim (fun h => by have := k.kd.base b h; omega) fun h => by have := k.zb b h; omega⟩
          · exact ⟨hr.r.lt, fun h => h.elim (fun h => by have := hFl _ h; omega) fun h => by have := hZl _ h; omega⟩
          · exact ⟨(Array.getElem?_eq_some_iff.1 hr.c).1, fun h => h.elim (fun h => by have := hFl _ h; omega) fun h => by have := hZl _ h; omega⟩
          · exact ⟨hr.x.lt, fun h => h.elim (fun h => by have := hFl _ h; omega) fun h => by have := hZl _ h; omega⟩) (Lib.hid (H3.out u hbu)) ha (by have := HWS.out; omega)
        rw [← HN.out] at h9
        exact h9
      have HD0 : Hid (Below w6.heap.size w6 w6.drew) := Lib.hid ((Below.refl _ _).drew)
      refine wp_region_held_drew (S := fun u => u.cell? ⟨bx, 0, none⟩ = some (.int .i64 C.room) ∧ u.cell? ⟨bx, 1, none⟩ = some (.slice C.fA C.fn C.fc) ∧ u.cell? ⟨bx, 2, none⟩ = some (.slice C.lA C.ln C.lc) ∧ u.cell? ⟨bx, 3, none⟩ = some (.string C.name) ∧ u.cell? ⟨bx, 4, none⟩ = some (.slice C.aA C.an C.ac) ∧ u.cell? ⟨bx, 5, none⟩ = some (.int .i64 C.dir) ∧ u.cell? ⟨bx, 6, none⟩ = some (.slice C.kA C.kn C.kc)) (by kernel_rfl) (HK6.out _ HD0.out) (fun hHeld => ?_)
      refine wpAnyH_take (i := 0) (v := ?_) rfl (by kernel_rfl) (by kernel_rfl) (by kernel_rfl) (fun _ _ _ h => h) (Or.inl ⟨by rfl, ?_⟩) (by assumption) ?_
      rotate_left 1
      · (intro w hSw; (try dsimp only at hSw); (try simp only [List.getElem_toArray, List.getElem_cons_succ, List.getElem_cons_zero]); go_simp <;> (try with_reducible rfl))
      try simp only [Act.put, List.getElem_toArray, List.getElem_cons_succ, List.getElem_cons_zero, List.setIfInBounds_toArray, List.set_cons_zero, List.set_cons_succ]
      refine wpAnyH_take (i := 1) (v := ?_) rfl (by kernel_rfl) (by kernel_rfl) (by kernel_rfl) (fun _ _ _ h => h) (Or.inl ⟨by rfl, ?_⟩) (by assumption) ?_
      rotate_left 1
      · (intro w hSw; (try dsimp only at hSw); (try simp only [List.getElem_toArray, List.getElem_cons_succ, List.getElem_cons_zero]); go_simp <;> (try with_reducible rfl))
      try simp only [Act.put, List.getElem_toArray, List.getElem_cons_succ, List.getElem_cons_zero, List.setIfInBounds_toArray, List.set_cons_zero, List.set_cons_succ]
      refine wpAnyH_take (i := 2) (v := ?_) rfl (by kernel_rfl) (by kernel_rfl) (by kernel_rfl) (fun _ _ _ h => h) (Or.inl ⟨by rfl, ?_⟩) (by assumption) ?_
      rotate_left 1
      · (intro w hSw; (try dsimp only at hSw); (try simp only [List.getElem_toArray, List.getElem_cons_succ, List.getElem_cons_zero]); go_simp <;> (try with_reducible rfl))
      try simp only [Act.put, List.getElem_toArray, List.getElem_cons_succ, List.getElem_cons_zero, List.setIfInBounds_toArray, List.set_cons_zero, List.set_cons_succ]
      refine wpAnyH_take (i := 3) (v := ?_) rfl (by kernel_rfl) (by kernel_rfl) (by kernel_rfl) (fun _ _ _ h => h) (Or.inl ⟨by rfl, ?_⟩) (by assumption) ?_
      rotate_left 1
      · (intro w hSw; (try dsimp only at hSw); (try simp only [List.getElem_toArray, List.getElem_cons_succ, List.getElem_cons_zero]); go_simp <;> (try with_reducible rfl))
      try simp only [Act.put, List.getElem_toArray, List.getElem_cons_succ, List.getElem_cons_zero, List.setIfInBounds_toArray, List.set_cons_zero, List.set_cons_succ]
      refine wpAnyH_take (i := 4) (v := ?_) rfl (by kernel_rfl) (by kernel_rfl) (by kernel_rfl) (fun _ _ _ h => h) (Or.inl ⟨by rfl, ?_⟩) (by assumption) ?_
      rotate_left 1
      · (intro w hSw; (try dsimp only at hSw); (try simp only [List.getElem_toArray, List.getElem_cons_succ, List.getElem_cons_zero]); go_simp <;> (try with_reducible rfl))
      try simp only [Act.put, List.getElem_toArray, List.getElem_cons_succ, List.getElem_cons_zero, List.setIfInBounds_toArray, List.set_cons_zero, List.set_cons_succ]
      refine wpAnyH_take (i := 5) (v := ?_) rfl (by kernel_rfl) (by kernel_rfl) (by kernel_rfl) (fun _ _ _ h => h) (Or.inl ⟨by rfl, ?_⟩) (by assumption) ?_
      rotate_left 1
      · (intro w hSw; (try dsimp only at hSw); (try simp only [List.getElem_toArray, List.getElem_cons_succ, List.getElem_cons_zero]); go_simp <;> (try with_reducible rfl))
      try simp only [Act.put, List.getElem_toArray, List.getElem_cons_succ, List.getElem_cons_zero, List.setIfInBounds_toArray, List.set_cons_zero, List.set_cons_succ]
      refine wpAnyH_ready (rs := [6]) (by kernel_rfl) (by simp) ?_
      refine AllReadyH.cons rfl (fun K hK => ?_) AllReadyH.nil
      have HPG := Lib.hid (prog30_any (w := w6.drew) C d x)
      unfold CaseP.val CaseP.cells at HPG
      go_simp
      refine HPG.out.mono ?_
      rintro e w7 ⟨rB, cB, xB, rfl, hrb, hge, hb7⟩
      have HB7 : Hid (Below w6.heap.size w6 w7) := Lib.hid (HD0.out.trans (hb7.out.mono (Nat.le_refl _)))
      have HRB := hrb
      have HED7 := Lib.hid (HED.out w7 rB cB xB HB7.out hrb.out hge.out)
      clear HPG hb7 hrb hge
      go_wp2_with fail
      refine hK.out _ _ (HK6.out _ HB7.out) (fun hHeld => ?_)
      clear hK K
      try simp only [Act.put, List.getElem_toArray, List.getElem_cons_succ, List.getElem_cons_zero, List.setIfInBounds_toArray, List.set_cons_zero, List.set_cons_succ]
      refine wpAnyH_ready (rs := [7]) (by kernel_rfl) (by simp) ?_
      refine AllReadyH.cons rfl (fun K hK => ?_) AllReadyH.nil
      go_simp
      refine HED7.out.mono ?_
      rintro e w8 hp
      obtain ⟨he8, G8, Z8, calls, wh, k8, hah⟩ := (K6.out.far HB7.out).edit hp
      obtain ⟨r, hr⟩ : ∃ r, r = ps.edit N (Disk.St.runOf N acts) := ⟨_, rfl⟩
      rw [← hr] at he8 k8
      have K8 := Lib.hid k8
      have HR := Lib.hid hr
      have HAH := Lib.hid hah
      have HK8 : Hid (∀ u, Below w8.heap.size w8 u → u.cell? ⟨bx, 0, none⟩ = some (.int .i64 C.room) ∧ u.cell? ⟨bx, 1, none⟩ = some (.slice C.fA C.fn C.fc) ∧ u.cell? ⟨bx, 2, none⟩ = some (.slice C.lA C.ln C.lc) ∧ u.cell? ⟨bx, 3, none⟩ = some (.string C.name) ∧ u.cell? ⟨bx, 4, none⟩ = some (.slice C.aA C.an C.ac) ∧ u.cell? ⟨bx, 5, none⟩ = some (.int .i64 C.dir) ∧ u.cell? ⟨bx, 6, none⟩ = some (.slice C.kA C.kn C.kc)) := Lib.hid fun u hu => HBX.out u (k8.kd.below.trans (hu.mono k8.kd.below.size))
      obtain ⟨f, hf9⟩ : ∃ f, f = r.2 := ⟨_, rfl⟩
      rw [← hf9] at he8
      subst he8
      have HFE := Lib.hid hf9
      clear hp k8 hr hah hf9
      go_wp2_with fail
      refine hK.out _ _ (HK8.out _ (Below.refl _ _)) (fun hHeld => ?_)
      clear hK K
      try simp only [Act.put, List.getElem_toArray, List.getElem_cons_succ, List.getElem_cons_zero, List.setIfInBounds_toArray, List.set_cons_zero, List.set_cons_succ]
      refine wpAnyH_take (i := 8) (v := ?_) rfl (by kernel_rfl) (by kernel_rfl) (by kernel_rfl) (fun _ _ _ h => h) (Or.inl ⟨by rfl, ?_⟩) (by assumption) ?_
      rotate_left 1
      · (intro w hSw; (try dsimp only at hSw); (try simp only [List.getElem_toArray, List.getElem_cons_succ, List.getElem_cons_zero]); go_simp <;> (try with_reducible rfl))
      try simp only [Act.put, List.getElem_toArray, List.getElem_cons_succ, List.getElem_cons_zero, List.setIfInBounds_toArray, List.set_cons_zero, List.set_cons_succ]
      refine wpAnyH_done (by kernel_rfl) ?_ _
      have HF8 : Hid (Disk.Fine r.1) := Lib.hid (by rw [HR.out]; exact Disk.fine_edit HF4.out (Disk.fine_runGo acts (Disk.fine_ahead HF4.out N)))
      have HSM8 : Hid (Disk.Small 17179869184 r.1) := Lib.hid (by rw [HR.out]; exact Disk.small_mono (Disk.small_edit HSM4.out (Disk.small_runGo acts (Disk.small_ahead HSM4.out N))) (by have := HWS.out; omega))
      go_wp2_with fail
      refine (off_any (Lib.hid K8.out.kd.at_)).mono ?_
      rintro e w9 ⟨rfl, hd9, ho9⟩
      have K9 := Lib.hid (K8.out.next (hd9.up (fun _ hb => .inl hb) (grow_lt K8.out.kd.at_.lt ho9.size)) ho9)
      have HF9 := Lib.hid (Disk.fine_act HF8.out .off)
      have HSM9 := Lib.hid (Disk.small_act HSM8.out .off)
      obtain ⟨G9, hG9⟩ : ∃ G9, G9 = grow G8 w8 w9 := ⟨_, rfl⟩
      rw [← hG9] at K9
      clear hd9 ho9 hG9
      obtain ⟨c0, c1, c2, c3, c4, c5, c6⟩ := HBX.out w9 K9.out.kd.below
      have HST := Lib.hid (start_off (w := w9) C.dir C.kA C.kn C.kc keep _ (Lib.hid K9.out.kd.at_) HF9 rfl hkn (Lib.hid (H4.out w9 K9.out.kd.below)) (Lib.hid fun b hb => ⟨Nat.lt_of_lt_of_le (HUL.out b hb) K9.out.kd.below.size, fun hf => by have := HUL.out b hb; have := K9.out.kd.base b hf; omega⟩) (by omega) (Nat.le_trans HSM9.out.2.2.2.2 (by omega)))
      go_wp2_with fail
      refine HST.out.mono ?_
      rintro e w10 ⟨rfl, hd10, ho10⟩
      have K10 := Lib.hid (K9.out.next hd10 ho10)
      obtain ⟨G10, hG10⟩ : ∃ G10, G10 = grow G9 w9 w10 := ⟨_, rfl⟩
      rw [← hG10] at K10
      obtain ⟨u, hu⟩ : ∃ u, u = r.1.off.start C.dir keep := ⟨_, rfl⟩
      have HU := Lib.hid hu
      have HFu : Hid (Disk.Fine u) := Lib.hid (by rw [hu]; exact Disk.fine_act HF9.out (.start C.dir keep))
      have HSu : Hid (Disk.Small 34359738368 u) := Lib.hid (by rw [hu]; exact Disk.small_mono (Disk.small_act HSM9.out (.start C.dir keep)) (by omega))
      have K10u : Hid (K3 W w10 G10 Z8 d u x calls wh) := Lib.hid (by rw [hu]; exact K10.out)
      clear hd10 ho10 hG10 hu K10 HST c0 c1 c2 c3 c4 c5 c6
      have HLAW := Lib.hid (Disk.whole_law (room := C.room) (fs := fs) HE0.out HDUR.out fl acts C.dir keep HS1.out HR.out HU.out)
      obtain ⟨c0, c1, c2, c3, c4, c5, c6⟩ := HBX.out w10 K10u.out.kd.below
      clear c0 c1 c2 c4 c5 c6
      obtain ⟨b9, hb9⟩ : ∃ b9, b9 = Disk.bytesOf u.files N := ⟨_, rfl⟩
      have HB9 := Lib.hid hb9
      clear hb9
      have HTH : Hid (b9.isSome = there) := Lib.hid (by rw [HB9.out, HTHERE.out, HB0.out]; exact HLAW.out.1)
      have HFI : Hid (∀ u2, Below w10.heap.size w10 u2 → Calls Try.prog 15 #[.pointer (some ⟨d, 0, none⟩)] u2 (FilesPost u2 u.files)) := Lib.hid fun u2 hu2 => files_any (Lib.hid (K10u.out.far hu2).kd.at_) HFu
      have HBT8 : Hid (∀ (u2 : World) (A : Option Addr) (n c : Nat) (B : Nat) (M : ByteArray), FilesOwn u2 B (.slice A n c) u.files → Calls Try.prog 12 #[.slice A n c, .string M] u2 fun e w' => (∃ A' m c', e = .returned (.tuple #[.slice A' m c', .bool (Disk.bytesOf u.files M.data.toList).isSome]) ∧ Hid (m = ((Disk.bytesOf u.files M.data.toList).getD []).length) ∧ Hid (SliceAt Rep.byte u2 (btw B u2.heap.size) A' c' ((Disk.bytesOf u.files M.data.toList).getD []))) ∧ u2 = w') := Lib.hid fun u2 A n c B M h => by
        obtain ⟨h5, h6⟩ := h.slice
        have := bytes30_any (w := u2) A n c (u.files.map Disk.toFin) M _ (Lib.hid (by rw [List.length_map]; exact h5)) (Lib.hid h6)
        rw [Disk.bytesF_told] at this
        exact this
      go_upto_region 20 with fail
      go_cut [13, 14] from 92 (fun v15 v16 wc => ∃ (A9 : Option Addr) (m9 n9 : Nat) (U9 : Blocks), v15 = .slice A9 m9 n9 ∧ v16 = .bool there ∧ Hid (m9 = (b9.getD []).length) ∧ Hid (SliceAt Rep.byte wc U9 A9 n9 (b9.getD [])) ∧ Hid (∀ b, U9 b → b < wc.heap.size ∧ w10.heap.size ≤ b) ∧ Hid (Below w10.heap.size w10 wc))
      case first =>
        as_aux_lemma =>
          have HD8 : Hid (Below w10.heap.size w10 w10.drew) := Lib.hid ((Below.refl _ _).drew)
          refine wp_region_held_drew (S := fun u => u.cell? ⟨bx, 3, none⟩ = some (.string C.name)) (by kernel_rfl) c3 (fun hHeld => ?_)
          refine wpAnyH_take (i := 0) (v := ?_) rfl (by kernel_rfl) (by kernel_rfl) (by kernel_rfl) (fun _ _ _ h => h) (Or.inl ⟨by rfl, ?_⟩) (by assumption) ?_
          rotate_left 1
          · (intro w hSw; (try dsimp only at hSw); (try simp only [List.getElem_toArray, List.getElem_cons_succ, List.getElem_cons_zero]); go_simp <;> (try with_reducible rfl))
          try simp only [Act.put, List.getElem_toArray, List.getElem_cons_succ, List.getElem_cons_zero, List.setIfInBounds_toArray, List.set_cons_zero, List.set_cons_succ]
          refine wpAnyH_take (i := 2) (v := ?_) rfl (by kernel_rfl) (by kernel_rfl) (by kernel_rfl) (fun _ _ _ h => h) (Or.inl ⟨by rfl, ?_⟩) (by assumption) ?_
          rotate_left 1
          · (intro w hSw; (try dsimp only at hSw); (try simp only [List.getElem_toArray, List.getElem_cons_succ, List.getElem_cons_zero]); go_simp <;> (try with_reducible rfl))
          try simp only [Act.put, List.getElem_toArray, List.getElem_cons_succ, List.getElem_cons_zero, List.setIfInBounds_toArray, List.set_cons_zero, List.set_cons_succ]
          refine wpAnyH_take (i := 3) (v := ?_) rfl (by kernel_rfl) (by kernel_rfl) (by kernel_rfl) (fun _ _ _ h => h) (Or.inl ⟨by rfl, ?_⟩) (by assumption) ?_
          rotate_left 1
          · (intro w hSw; (try dsimp only at hSw); (try simp only [List.getElem_toArray, List.getElem_cons_succ, List.getElem_cons_zero]); go_simp <;> (try with_reducible rfl))
          try simp only [Act.put, List.getElem_toArray, List.getElem_cons_succ, List.getElem_cons_zero, List.setIfInBounds_toArray, List.set_cons_zero, List.set_cons_succ]
          refine wpAnyH_ready (rs := [1]) (by kernel_rfl) (by simp) ?_
          refine AllReadyH.cons rfl (fun K hK => ?_) AllReadyH.nil
          go_simp
          refine (HFI.out _ HD8.out).mono ?_
          rintro e w91 ⟨A, n, c, rfl, hn9, hnc9, hcm9, ho9, hb9⟩
          have HB9B : Hid (Below w10.heap.size w10 w91) := Lib.hid (HD8.out.trans (hb9.mono HD8.out.size))
          have HLO : Hid (w10.heap.size ≤ w10.drew.heap.size) := Lib.hid HD8.out.size
          have HBT9 := Lib.hid (HBT8.out w91 A n c _ C.name ho9)
          rw [← HN.out, ← HB9.out] at HBT9
          clear hn9 ho9 hb9
          have d3 := (HBX.out w91 (K10u.out.kd.below.trans (HB9B.out.mono K10u.out.kd.below.size))).2.2.2.1
          go_wp2_with fail
          refine hK.out _ _ d3 (fun hHeld => ?_)
          clear hK K
          try simp only [Act.put, List.getElem_toArray, List.getElem_cons_succ, List.getElem_cons_zero, List.setIfInBounds_toArray, List.set_cons_zero, List.set_cons_succ]
          refine wpAnyH_ready (rs := [4]) (by kernel_rfl) (by simp) ?_
          refine AllReadyH.cons rfl (fun K hK => ?_) AllReadyH.nil
          go_simp
          refine HBT9.out.mono ?_
          rintro e w92 ⟨⟨A', m', c', rfl, hm', hs'⟩, rfl⟩
          rw [HTH.out]
          go_wp2_with fail
          refine hK.out _ _ d3 (fun hHeld => ?_)
          clear hK K
          try simp only [Act.put, List.getElem_toArray, List.getElem_cons_succ, List.getElem_cons_zero, List.setIfInBounds_toArray, List.set_cons_zero, List.set_cons_succ]
          refine wpAnyH_take (i := 5) (v := ?_) rfl (by kernel_rfl) (by kernel_rfl) (by kernel_rfl) (fun _ _ _ h => h) (Or.inl ⟨by rfl, ?_⟩) (by assumption) ?_
          rotate_left 1
          · (intro w hSw; (try dsimp only at hSw); (try simp only [List.getElem_toArray, List.getElem_cons_succ, List.getElem_cons_zero]); go_simp <;> (try with_reducible rfl))
          try simp only [Act.put, List.getElem_toArray, List.getElem_cons_succ, List.getElem_cons_zero, List.setIfInBounds_toArray, List.set_cons_zero, List.set_cons_succ]
          refine wpAnyH_take (i := 6) (v := ?_) rfl (by kernel_rfl) (by kernel_rfl) (by kernel_rfl) (fun _ _ _ h => h) (Or.inl ⟨by rfl, ?_⟩) (by assumption) ?_
          rotate_left 1
          · (intro w hSw; (try dsimp only at hSw); (try simp only [List.getElem_toArray, List.getElem_cons_succ, List.getElem_cons_zero]); go_simp <;> (try with_reducible rfl))
          try simp only [Act.put, List.getElem_toArray, List.getElem_cons_succ, List.getElem_cons_zero, List.setIfInBounds_toArray, List.set_cons_zero, List.set_cons_succ]
          refine wpAnyH_take (i := 7) (v := ?_) rfl (by kernel_rfl) (by kernel_rfl) (by kernel_rfl) (fun _ _ _ h => h) (Or.inl ⟨by rfl, ?_⟩) (by assumption) ?_
          rotate_left 1
          · (intro w hSw; (try dsimp only at hSw); (try simp only [List.getElem_toArray, List.getElem_cons_succ, List.getElem_cons_zero]); go_simp <;> (try with_reducible rfl))
          try simp only [Act.put, List.getElem_toArray, List.getElem_cons_succ, List.getElem_cons_zero, List.setIfInBounds_toArray, List.set_cons_zero, List.set_cons_succ]
          refine wpAnyH_take (i := 8) (v := ?_) rfl (by kernel_rfl) (by kernel_rfl) (by kernel_rfl) (fun _ _ _ h => h) (Or.inl ⟨by rfl, ?_⟩) (by assumption) ?_
          rotate_left 1
          · (intro w hSw; (try dsimp only at hSw); (try simp only [List.getElem_toArray, List.getElem_cons_succ, List.getElem_cons_zero]); go_simp <;> (try with_reducible rfl))
          try simp only [Act.put, List.getElem_toArray, List.getElem_cons_succ, List.getElem_cons_zero, List.setIfInBounds_toArray, List.set_cons_zero, List.set_cons_succ]
          refine wpAnyH_take (i := 9) (v := ?_) rfl (by kernel_rfl) (by kernel_rfl) (by kernel_rfl) (fun _ _ _ h => h) (Or.inl ⟨by rfl, ?_⟩) (by assumption) ?_
          rotate_left 1
          · (intro w hSw; (try dsimp only at hSw); (try simp only [List.getElem_toArray, List.getElem_cons_succ, List.getElem_cons_zero]); go_simp <;> (try with_reducible rfl))
          try simp only [Act.put, List.getElem_toArray, List.getElem_cons_succ, List.getElem_cons_zero, List.setIfInBounds_toArray, List.set_cons_zero, List.set_cons_succ]
          refine wpAnyH_done (by kernel_rfl) ?_ _
          go_wp2_with fail
          go_meet
          case rel => exact ⟨A', m', c', _, rfl, rfl, hm', hs', Lib.hid fun b hb => ⟨hb.2, Nat.le_trans HLO.out hb.1⟩, HB9B⟩
      case rest =>
      obtain ⟨A9, m9, n9, U9, rfl, rfl, HM9, HS9, HU9, HC9⟩ := hcut
      obtain ⟨w11, rfl⟩ : ∃ X : World, X = wc := ⟨_, rfl⟩
      have K11 := Lib.hid (K10u.out.far HC9.out)
      have KB11 : Hid (Kb W w11 G10 d u U9 A9 n9 (b9.getD [])) := Lib.hid ⟨K11.out.kd, HS9.out, fun b hb => ⟨(HU9.out b hb).1, fun hg => by have := K10u.out.kd.at_.lt b hg; have := (HU9.out b hb).2; omega⟩⟩
      have HEQO : Hid (∀ u2, Below w11.heap.size w11 u2 → ∀ q, decide ((b9.getD []) = (b0.getD [])) = q → Calls Try.prog 17 #[.slice A9 m9 n9, .slice Ao mo co] u2 fun e w' => e = .returned (.bool q) ∧ Below u2.heap.size u2 w') := Lib.hid fun u2 hu q hq => eqB30 A9 Ao m9 mo n9 co _ _ q u2 _ _ HM9 HMO (Lib.hid hq) (Lib.hid (KB11.out.far hu).sl) (Lib.hid (HSO.out u2 (K11.out.far hu).kd.below))
      obtain ⟨wv, Aw, nw, cw, Uw, HWV⟩ : ∃ wv Aw nw cw Uw, Hid (wv = .slice Aw nw cw ∧ nw = wh.length ∧ ∀ u2, Below w11.heap.size w11 u2 → u2.cell? ⟨x, 0, none⟩ = some (.int .i64 (calls : Int)) ∧ u2.cell? ⟨x, 3, none⟩ = some wv ∧ SliceAt Rep.byte u2 Uw Aw cw wh) := by
        obtain ⟨bv, av, wv, an, hrec, -⟩ := K11.out.rc
        obtain ⟨Aw, cw, rfl, hsw⟩ := hrec.who.slice
        have key : ∀ u2, Below w11.heap.size w11 u2 → u2.cell? ⟨x, 0, none⟩ = some (.int .i64 (calls : Int)) ∧ u2.cell? ⟨x, 3, none⟩ = some (.slice Aw wh.length cw) ∧ SliceAt Rep.byte u2 _ Aw cw wh := fun u2 hu => by
          have h9 := hrec.same (Same.of_below hu hrec.lt) hu.size
          exact ⟨h9.cell 0, h9.cell 3, hsw.keep (fun _ h => h) (Same.of_below hu fun b hb => hb.elim (fun h => h.2.1) fun h => h.elim)⟩
        exact ⟨_, Aw, wh.length, cw, _, Lib.hid ⟨rfl, rfl, key⟩⟩
      obtain ⟨hwv, hnw, hwx⟩ := HWV.out
      subst hwv
      have HWX := Lib.hid hwx
      have HNW := Lib.hid hnw
      clear HWV hwx hnw
      have HEQW : Hid (b9.getD [] = wh → ∀ u2, Below w11.heap.size w11 u2 → Calls Try.prog 17 #[.slice A9 m9 n9, .slice Aw nw cw] u2 fun e w' => e = .returned (.bool true) ∧ Below u2.heap.size u2 w') := Lib.hid fun hq u2 hu => eqB30 A9 Aw m9 nw n9 cw _ _ true u2 _ _ HM9 HNW (Lib.hid (by rw [decide_eq_true hq])) (Lib.hid (KB11.out.far hu).sl) (Lib.hid (HWX.out u2 hu).2.2)
      have HEND : Hid (∀ u2, Below w11.heap.size w11 u2 → Below w.heap.size w u2) := Lib.hid fun u2 hu => hback.out u2 (K11.out.far hu).kd.below
      have hcl : Hid (calls ≤ 1 ∧ (f = 0 → calls = 1 ∧ there = true ∧ b9.getD [] = wh) ∧ (b9.getD [] ≠ b0.getD [] → b9.getD [] = wh)) := Lib.hid (by
        obtain ⟨l1, l2, l3, l4⟩ := HLAW.out
        rw [← HFE.out, ← HB9.out] at l2
        rw [← HB9.out, ← HB0.out] at l3
        rcases HAH.out with ⟨ha1, ha2⟩ | ⟨ha1, ha2, ha3⟩
        · refine ⟨by omega, fun h => absurd (l2 h).1 ha1, fun h => ?_⟩
          rcases l3 with l3 | l3
          · exact absurd (by rw [l3]) h
          · exact absurd l3.1 ha1
        · refine ⟨by omega, fun h => ⟨ha2, ?_, ?_⟩, fun h => ?_⟩
          · rw [← HTH.out, (l2 h).2]; rfl
          · rw [(l2 h).2, ha3]; rfl
          · rcases l3 with l3 | l3
            · exact absurd (by rw [l3]) h
            · rw [l3.2, ha3]; rfl)
      have hc11 := HBX.out w11 K11.out.kd.below
      obtain ⟨x0, x3, -⟩ := HWX.out w11 (Below.refl _ _)
      have hthb : (there != there) = false := by simp
      go_upto_region 21 with fail
      go_cut [116] from 99 (fun v116 wc => v116 = .bool false ∧ Hid (wc = w11))
      case first =>
        as_aux_lemma =>
          by_cases hf0 : f = 0
          · obtain ⟨h1, h2, -⟩ := hcl.out.2.1 hf0
            subst h1 h2
            have hfb : (f == 0) = true := beq_iff_eq.2 hf0
            clear hf0
            go_wp2_with fail
            go_meet
            case rel => exact ⟨rfl, Lib.hid rfl⟩
          · have hfb : (f == 0) = false := beq_eq_false_iff_ne.2 hf0
            clear hf0
            go_wp2_with fail
            go_meet
            case rel => exact ⟨rfl, Lib.hid rfl⟩
      case rest =>
      obtain ⟨rfl, HWC⟩ := hcut
      rw [HWC.out]
      clear HWC hthb
      obtain ⟨it, hit⟩ : ∃ it, it = Disk.isTmp N := ⟨_, rfl⟩
      have HIS : Hid (∀ u2, Calls Try.prog 21 #[.string C.name] u2 fun e w' => e = .returned (.bool it) ∧ u2 = w') := Lib.hid fun u2 => by have h := is_any C.name u2; rw [← HN.out, ← hit] at h; exact h
      have HIT := Lib.hid hit
      clear hit
      obtain ⟨-, -, -, d3, -, -, -⟩ := hc11
      by_cases hti : there = true ∧ it = true
      · obtain ⟨h1, h2⟩ := hti
        obtain ⟨t1, t2⟩ := HLAW.out.2.2.2 (by rw [← HIT.out]; exact h2)
        have hfb : (f == 20) = true := beq_iff_eq.2 (by rw [HFE.out]; exact t1)
        have HEQ := Lib.hid (HEQO.out w11 (Below.refl _ _) true (by rw [decide_eq_true (by rw [HB9.out, HB0.out, t2])]))
        subst h1 h2
        clear t1 t2
        go_wp2_with fail
        refine (HIS.out _).mono ?_
        rintro e w12 ⟨rfl, rfl⟩
        go_wp2_with fail
        refine HEQ.out.mono ?_
        rintro e w12 ⟨rfl, hb12⟩
        have HB12 := Lib.hid (HEND.out _ hb12)
        clear hb12
        go_wp2_with fail
        go_ret
        exact ⟨rfl, HB12.out⟩
      have HNT : Hid (Disk.isTmp N = false ∨ Disk.bytesOf u.files N = none) := Lib.hid (by
        cases it with
        | false => exact .inl HIT.out.symm
        | true =>
          right
          have h1 : there = false := by cases there with | false => rfl | true => exact absurd ⟨rfl, rfl⟩ hti
          rw [← HB9.out]
          have h2 := HTH.out
          rw [h1] at h2
          exact Option.isNone_iff_eq_none.1 (by simpa using h2))
      go_upto_region 23 with fail
      go_cut [122] from 117 (fun v122 wc => v122 = .bool false ∧ Hid (wc = w11))
      case first =>
        as_aux_lemma =>
          cases there
          · go_wp2_with fail
            go_meet
            case rel => exact ⟨rfl, Lib.hid rfl⟩
          · have hitF : it = false := by cases it with | false => rfl | true => exact absurd ⟨rfl, rfl⟩ hti
            subst hitF
            go_wp2_with fail
            refine (HIS.out _).mono ?_
            rintro e w12 ⟨rfl, rfl⟩
            go_wp2_with fail
            go_meet
            case rel => exact ⟨rfl, Lib.hid rfl⟩
      case rest =>
      obtain ⟨rfl, HWC⟩ := hcut
      rw [HWC.out]
      clear HWC hti d3 HIS
      obtain ⟨q, hq⟩ : ∃ q, decide ((b9.getD []) = (b0.getD [])) = q := ⟨_, rfl⟩
      have HEQ := Lib.hid (HEQO.out w11 (Below.refl _ _) q hq)
      have HQ : Hid (q = false → b9.getD [] = wh) := Lib.hid fun h => hcl.out.2.2 (of_decide_eq_false (hq.trans h))
      clear hq x0 x3
      go_wp2_with fail
      refine HEQ.out.mono ?_
      rintro e w12 ⟨rfl, hb12⟩
      have HB12 := Lib.hid hb12
      obtain ⟨y0, y3, -⟩ := HWX.out w12 hb12
      clear hb12 HEQ
      go_upto_region 26 with fail
      go_cut [166] from 133 (fun v166 wc => v166 = .bool false ∧ Hid (Below w11.heap.size w11 wc))
      case first =>
        as_aux_lemma =>
          have hcb : ¬ (1 : Int) < (calls : Int) := by have := hcl.out.1; omega
          have hcb2 : calls ≤ 1 := hcl.out.1
          by_cases hf0 : f = 0
          · obtain ⟨h1, h2, h3⟩ := hcl.out.2.1 hf0
            subst h1 h2
            have HE2 := Lib.hid (HEQW.out h3)
            have hfb : (f == 0) = true := beq_iff_eq.2 hf0
            clear hf0 h3 hcb hcb2
            cases q
            · go_wp2_with fail
              refine (HE2.out _ HB12.out).mono ?_
              rintro e w13 ⟨rfl, hb13⟩
              have HB13 := Lib.hid (HB12.out.trans (hb13.mono HB12.out.size))
              clear y0 y3 hb13
              obtain ⟨y0, y3, -⟩ := HWX.out w13 HB13.out
              go_wp2_with fail
              refine (HE2.out _ HB13.out).mono ?_
              rintro e w14 ⟨rfl, hb14⟩
              have HB14 := Lib.hid (HB13.out.trans (hb14.mono HB13.out.size))
              clear y0 y3 hb14
              obtain ⟨y0, y3, -⟩ := HWX.out w14 HB14.out
              go_wp2_with fail
              go_meet
              case rel => exact ⟨rfl, HB14⟩
            · go_wp2_with fail
              refine (HE2.out _ HB12.out).mono ?_
              rintro e w13 ⟨rfl, hb13⟩
              have HB13 := Lib.hid (HB12.out.trans (hb13.mono HB12.out.size))
              clear y0 y3 hb13
              obtain ⟨y0, y3, -⟩ := HWX.out w13 HB13.out
              go_wp2_with fail
              go_meet
              case rel => exact ⟨rfl, HB13⟩
          · have hfb : (f == 0) = false := beq_eq_false_iff_ne.2 hf0
            clear hf0
            have hcv : calls = 0 ∨ calls = 1 := by omega
            cases q
            · have HE2 := Lib.hid (HEQW.out (HQ.out rfl))
              rcases hcv with rfl | rfl <;> cases there
              all_goals
                go_wp2_with fail
                try (refine (HE2.out _ HB12.out).mono ?_; rintro e w13 ⟨rfl, hb13⟩; have HB13 := Lib.hid (HB12.out.trans (hb13.mono HB12.out.size)); clear y0 y3 hb13; obtain ⟨y0, y3, -⟩ := HWX.out w13 HB13.out; go_wp2_with fail)
                go_meet
                case rel => exact ⟨rfl, by first | assumption | exact HB12⟩
            · rcases hcv with rfl | rfl <;> cases there
              all_goals
                go_wp2_with fail
                go_meet
                case rel => exact ⟨rfl, HB12⟩
      case rest =>
      obtain ⟨rfl, HB13⟩ := hcut
      obtain ⟨w13, rfl⟩ : ∃ X : World, X = wc := ⟨_, rfl⟩
      have KB13 := Lib.hid (KB11.out.far HB13.out)
      clear HEQW HWX HEQO HEND y0 y3 HQ hcl HNW HTHERE HMO HSO K11 KB11 K10u
      have HSu0 : Hid (Disk.Small (smallK 0) u) := HSu
      go_wp2_with fail
      go_loopg [16] cn (fun k iv wr2 => ∃ (i : Nat) (F2 : Blocks), i ≤ cn ∧ i ≤ 65536 ∧ iv = .int .i64 i ∧ k = cn - i ∧ Hid (Kb W wr2 F2 d (Disk.St.recovs keep (cuts.take i) u) U9 A9 n9 (b9.getD [])) ∧ Hid (Disk.Fine (Disk.St.recovs keep (cuts.take i) u)) ∧ Hid (Disk.Small (smallK i) (Disk.St.recovs keep (cuts.take i) u)))
      case atStart => exact ⟨0, G10, Nat.zero_le _, by omega, rfl, rfl, KB13, HFu, HSu0⟩
      case round =>
      clear c3 HB13 KB13 HSu HSu0
      obtain ⟨wr2, rfl⟩ : ∃ X : World, X = wr := ⟨_, rfl⟩
      obtain ⟨i, F2, hi, hi2, rfl, rfl, KB, HFi, HSi⟩ := hrel
      by_cases hgo : i < cn ∧ i < 65536
      · as_aux_lemma =>
          obtain ⟨hin, hi6⟩ := hgo
          have HI6 := Lib.hid hi6
          have hi6i : (i : Int) < 65536 := by omega
          have hil : i < cuts.length := by rw [← hcn.out]; exact hin
          have hkb := smallK_le hi2
          obtain ⟨kk, hkk⟩ : ∃ kk, kk = smallK i := ⟨_, rfl⟩
          rw [← hkk] at hkb HSi
          have HKK : Hid (kk + 80 = smallK (i + 1)) := Lib.hid (by rw [smallK_next, hkk])
          have HKK0 := Lib.hid hkk
          clear hkk
          obtain ⟨v, hv⟩ : ∃ v, v = Disk.St.recovs keep (cuts.take i) u := ⟨_, rfl⟩
          have HNX : Hid (Disk.St.recovs keep (cuts.take (i + 1)) u = if (cuts[i]).tmod 8 < 1 then v else v.recov ((cuts[i]).tmod 8) ((cuts[i]).tdiv 8) keep) := Lib.hid (by rw [List.take_succ_eq_append_getElem hil, Disk.recovs_snoc, hv])
          rw [← hv] at KB HFi HSi
          have HBi := Lib.hid KB.out.kd.below
          obtain ⟨g, o, cs, hA, hg, hcs, hci, hwf⟩ := (H5.out _ HBi.out).at_ hil
          obtain ⟨cz, hcz⟩ : ∃ cz, cz = cuts[i] := ⟨_, rfl⟩
          rw [← hcz] at HNX hci hwf
          subst hci
          have HCC : Hid (∀ u2, Below W.heap.size W u2 → u2.cell? ⟨g, o + i, none⟩ = some (.int .i64 cz)) := Lib.hid fun u2 hu2 => by
            have h1 := hcs.one
            rw [show (Rep.int .i64).n = 1 from rfl, Nat.mul_one] at h1
            rw [← h1]
            have e1 := hu2.block g (HUL.out g hg)
            have e2 := HBi.out.block g (HUL.out g hg)
            simp [World.cell?, e1, e2]
          subst hA
          have e7 := HCC.out _ HBi.out
          obtain ⟨n8, hn8⟩ : ∃ n8, n8 = cz.tmod 8 := ⟨_, rfl⟩
          obtain ⟨d8, hd8⟩ : ∃ d8, d8 = cz.tdiv 8 := ⟨_, rfl⟩
          obtain ⟨hwd, hw8, h81, h82⟩ := tdiv8 hwf
          rw [← hn8] at hw8 h81 h82
          rw [← hd8] at hwd
          rw [← hn8] at HNX
          have hn8s := hn8.symm
          rw [← hd8] at HNX
          have hd8s := hd8.symm
          clear hcs hg hcz hv hn8 hd8 hwf
          clear hi2 hi6
          by_cases h1 : n8 < 1
          · go_wp2_with fail
            go_roundg (cn - (i + 1))
            case measure => omega
            case rel => exact ⟨i + 1, F2, by omega, by have := HI6.out; omega, by go_num, rfl, by rw [HNX.out, if_pos h1]; exact KB, by rw [HNX.out, if_pos h1]; exact HFi, by rw [HNX.out, if_pos h1]; exact Lib.hid (Disk.small_mono HSi.out (by have := HKK.out; omega))⟩
          have HNR : Hid (Disk.St.recovs keep (cuts.take (i + 1)) u = (((v.plan_ [(n8, 24)]).1.clean.1).off).start d8 keep) := Lib.hid (by rw [HNX.out, if_neg h1]; rfl)
          obtain ⟨wp, hwp⟩ : ∃ wp, wp = wr2.alloc (.cells #[.int .i64 n8, .int .i64 24] 45) := ⟨_, rfl⟩
          have hbp : Below wr2.heap.size wr2 wp := by rw [hwp]; exact Below.alloc (Below.refl _ _) (Nat.le_refl _) _
          have hsp : SliceAt Rep.fault wp (fun b => b = wr2.heap.size) (some ⟨wr2.heap.size, 0, none⟩) 1 [(n8, 24)] := by
            rw [hwp]
            exact (SliceAt.newRow Rep.fault wr2 45 #[.int .i64 n8, .int .i64 24] [(n8, 24)] nob 1 1 rfl (Nat.le_refl _) (by decide) (fun j hj => by
              match j, hj with
              | 0, _ => exact ⟨rfl, by simp [Lit.wf, IntKind.min, IntKind.max, IntKind.signed, IntKind.bits]; omega, rfl⟩) fun _ h => h.elim).up fun b hb => hb.elim id fun h => h.elim
          have KP := Lib.hid (KB.out.far hbp)
          have HPL2 := Lib.hid (plan_any (w := wp) (some ⟨wr2.heap.size, 0, none⟩) 1 1 [(n8, 24)] _ (Lib.hid KP.out.kd.at_) (Lib.hid rfl) (Lib.hid hsp) (Lib.hid (by rintro b rfl; exact ⟨by rw [hwp]; simp, fun hf => absurd (KB.out.kd.at_.lt _ hf) (Nat.lt_irrefl _)⟩)) (by decide))
          have HWP := Lib.hid hwp
          obtain ⟨pb, hpb⟩ : ∃ pb, pb = wr2.heap.size := ⟨_, rfl⟩
          rw [← hpb] at HPL2
          have HPB := Lib.hid hpb
          clear hwp hbp hsp hpb
          go_wp2_with fail
          rw [← HWP.out, ← HPB.out]
          refine HPL2.out.mono ?_
          rintro e wa hc
          obtain ⟨rfl, hk⟩ := KP.out.call hc
          have KA := Lib.hid hk
          have HFA := Lib.hid (Disk.fine_act HFi.out (.plan [(n8, 24)]))
          have HSA := Lib.hid (Disk.small_act HSi.out (.plan [(n8, 24)]))
          clear hc hk HPL2
          go_wp2_with fail
          refine (clean_any (Lib.hid KA.out.kd.at_) HFA HSA (by omega)).mono ?_
          rintro e wb hc
          obtain ⟨rfl, hk⟩ := KA.out.call hc
          have KC := Lib.hid hk
          have HFC := Lib.hid (Disk.fine_clean HFA.out)
          have HSC := Lib.hid (Disk.small_clean HFA.out HSA.out)
          clear hc hk
          go_wp2_with fail
          refine (off_any (Lib.hid KC.out.kd.at_)).mono ?_
          rintro e wc2 ⟨rfl, hd7, ho7⟩
          have KO := Lib.hid (KC.out.next (hd7.up (fun _ hb => .inl hb) (grow_lt KC.out.kd.at_.lt ho7.size)) ho7)
          have HFO := Lib.hid (Disk.fine_act HFC.out .off)
          have HSO := Lib.hid (Disk.small_act HSC.out .off)
          obtain ⟨FO, hFO⟩ : ∃ FO, FO = grow (grow (grow F2 wp wa) wa wb) wb wc2 := ⟨_, rfl⟩
          rw [← hFO] at KO
          clear hd7 ho7 hFO
          have HBO := Lib.hid KO.out.kd.below
          have HS36 : Hid (∀ u2, Below wc2.heap.size wc2 u2 → u2.cell? ⟨g, o + i, none⟩ = some (.int .i64 cz) ∧ u2.cell? ⟨bx, 6, none⟩ = some (.slice C.kA C.kn C.kc)) := Lib.hid fun u2 hu2 => by
            have h2 := HBO.out.trans (hu2.mono HBO.out.size)
            exact ⟨HCC.out u2 h2, (HBX.out u2 h2).2.2.2.2.2.2⟩
          have HD36 : Hid (Below wc2.heap.size wc2 wc2.drew) := Lib.hid ((Below.refl _ _).drew)
          have KD := Lib.hid (KO.out.far HD36.out)
          have HST2 := Lib.hid (start_off (w := wc2.drew) d8 C.kA C.kn C.kc keep _ (Lib.hid KD.out.kd.at_) HFO rfl hkn (Lib.hid (H4.out _ KD.out.kd.below)) (Lib.hid fun b hb => ⟨Nat.lt_of_lt_of_le (HUL.out b hb) KD.out.kd.below.size, fun hf => by have := HUL.out b hb; have := KD.out.kd.base b hf; omega⟩) (by omega) (Nat.le_trans HSO.out.2.2.2.2 (by omega)))
          have hin1 : (i : Int) < (cn : Int) := by omega
          have hin0 : (0 : Int) ≤ (i : Int) := Int.natCast_nonneg _
          go_upto_region 36 with fail
          refine wp_region_held_drew (S := fun u2 => u2.cell? ⟨g, o + i, none⟩ = some (.int .i64 cz) ∧ u2.cell? ⟨bx, 6, none⟩ = some (.slice C.kA C.kn C.kc)) (by kernel_rfl) (HS36.out _ HD36.out) (fun hHeld => ?_)
          refine wpAnyH_take (i := 0) (v := ?_) rfl (by kernel_rfl) (by kernel_rfl) (by kernel_rfl) (fun _ _ _ h => h) (Or.inl ⟨by rfl, ?_⟩) (by assumption) ?_
          rotate_left 1
          · (intro w hSw; (try dsimp only at hSw); (try simp only [List.getElem_toArray, List.getElem_cons_succ, List.getElem_cons_zero]); go_simp <;> (try with_reducible rfl))
          try simp only [Act.put, List.getElem_toArray, List.getElem_cons_succ, List.getElem_cons_zero, List.setIfInBounds_toArray, List.set_cons_zero, List.set_cons_succ]
          refine wpAnyH_take (i := 1) (v := ?_) rfl (by kernel_rfl) (by kernel_rfl) (by kernel_rfl) (fun _ _ _ h => h) (Or.inl ⟨by rfl, ?_⟩) (by assumption) ?_
          rotate_left 1
          · (intro w hSw; (try dsimp only at hSw); (try simp only [List.getElem_toArray, List.getElem_cons_succ, List.getElem_cons_zero]); go_simp <;> (try with_reducible rfl))
          try simp only [Act.put, List.getElem_toArray, List.getElem_cons_succ, List.getElem_cons_zero, List.setIfInBounds_toArray, List.set_cons_zero, List.set_cons_succ]
          refine wpAnyH_take (i := 2) (v := ?_) rfl (by kernel_rfl) (by kernel_rfl) (by kernel_rfl) (fun _ _ _ h => h) (Or.inl ⟨by rfl, ?_⟩) (by assumption) ?_
          rotate_left 1
          · (intro w hSw; (try dsimp only at hSw); (try simp only [List.getElem_toArray, List.getElem_cons_succ, List.getElem_cons_zero]); go_simp <;> (try with_reducible rfl))
          try simp only [Act.put, List.getElem_toArray, List.getElem_cons_succ, List.getElem_cons_zero, List.setIfInBounds_toArray, List.set_cons_zero, List.set_cons_succ]
          refine wpAnyH_take (i := 3) (v := ?_) rfl (by kernel_rfl) (by kernel_rfl) (by kernel_rfl) (fun _ _ _ h => h) (Or.inl ⟨by rfl, ?_⟩) (by assumption) ?_
          rotate_left 1
          · (intro w hSw; (try dsimp only at hSw); (try simp only [List.getElem_toArray, List.getElem_cons_succ, List.getElem_cons_zero]); go_simp <;> (try with_reducible rfl))
          try simp only [Act.put, List.getElem_toArray, List.getElem_cons_succ, List.getElem_cons_zero, List.setIfInBounds_toArray, List.set_cons_zero, List.set_cons_succ]
          refine wpAnyH_take (i := 4) (v := ?_) rfl (by kernel_rfl) (by kernel_rfl) (by kernel_rfl) (fun _ _ _ h => h) (Or.inl ⟨by rfl, ?_⟩) (by assumption) ?_
          rotate_left 1
          · (intro w hSw; (try dsimp only at hSw); (try simp only [List.getElem_toArray, List.getElem_cons_succ, List.getElem_cons_zero]); go_simp <;> (try with_reducible rfl))
          try simp only [Act.put, List.getElem_toArray, List.getElem_cons_succ, List.getElem_cons_zero, List.setIfInBounds_toArray, List.set_cons_zero, List.set_cons_succ]
          refine wpAnyH_take (i := 5) (v := ?_) rfl (by kernel_rfl) (by kernel_rfl) (by kernel_rfl) (fun _ _ _ h => h) (Or.inl ⟨by rfl, ?_⟩) (by assumption) ?_
          rotate_left 1
          · (intro w hSw; (try dsimp only at hSw); (try simp only [List.getElem_toArray, List.getElem_cons_succ, List.getElem_cons_zero]); go_simp <;> (try with_reducible rfl))
          try simp only [Act.put, List.getElem_toArray, List.getElem_cons_succ, List.getElem_cons_zero, List.setIfInBounds_toArray, List.set_cons_zero, List.set_cons_succ]
          refine wpAnyH_take (i := 6) (v := ?_) rfl (by kernel_rfl) (by kernel_rfl) (by kernel_rfl) (fun _ _ _ h => h) (Or.inl ⟨by rfl, ?_⟩) (by assumption) ?_
          rotate_left 1
          · (intro w hSw; (try dsimp only at hSw); (try simp only [List.getElem_toArray, List.getElem_cons_succ, List.getElem_cons_zero]); go_simp <;> (try with_reducible rfl))
          try simp only [Act.put, List.getElem_toArray, List.getElem_cons_succ, List.getElem_cons_zero, List.setIfInBounds_toArray, List.set_cons_zero, List.set_cons_succ]
          refine wpAnyH_take (i := 7) (v := ?_) rfl (by kernel_rfl) (by kernel_rfl) (by kernel_rfl) (fun _ _ _ h => h) (Or.inl ⟨by rfl, ?_⟩) (by assumption) ?_
          rotate_left 1
          · (intro w hSw; (try dsimp only at hSw); (try simp only [List.getElem_toArray, List.getElem_cons_succ, List.getElem_cons_zero]); go_simp <;> (try with_reducible rfl))
          try simp only [Act.put, List.getElem_toArray, List.getElem_cons_succ, List.getElem_cons_zero, List.setIfInBounds_toArray, List.set_cons_zero, List.set_cons_succ]
          refine wpAnyH_ready (rs := [8]) (by kernel_rfl) (by simp) ?_
          refine AllReadyH.cons rfl (fun K hK => ?_) AllReadyH.nil
          go_simp
          refine HST2.out.mono ?_
          rintro e w36 ⟨rfl, hd36, ho36⟩
          have KE := Lib.hid (KD.out.next hd36 ho36)
          have HFE := Lib.hid (Disk.fine_act HFO.out (.start d8 keep))
          have HSE := Lib.hid (Disk.small_act HSO.out (.start d8 keep))
          have HS37 := Lib.hid (show w36.cell? ⟨g, o + i, none⟩ = some (.int .i64 cz) ∧ w36.cell? ⟨bx, 6, none⟩ = some (.slice C.kA C.kn C.kc) from ⟨HCC.out _ KE.out.kd.below, (HBX.out _ KE.out.kd.below).2.2.2.2.2.2⟩)
          clear hd36 ho36
          go_wp2_with fail
          refine hK.out _ _ HS37.out (fun hHeld => ?_)
          clear hK K
          try simp only [Act.put, List.getElem_toArray, List.getElem_cons_succ, List.getElem_cons_zero, List.setIfInBounds_toArray, List.set_cons_zero, List.set_cons_succ]
          refine wpAnyH_done (by kernel_rfl) ?_ _
          go_wp2_with fail
          go_roundg (cn - (i + 1))
          case measure => omega
          case rel => exact ⟨i + 1, _, by omega, by have := HI6.out; omega, by go_num, rfl, by rw [HNR.out]; exact KE, by rw [HNR.out]; exact HFE, by rw [HNR.out]; exact Lib.hid (Disk.small_mono HSE.out (by have := HKK.out; omega))⟩
      · as_aux_lemma =>
          have hkb := smallK_le hi2
          obtain ⟨kk, hkk⟩ : ∃ kk, kk = smallK i := ⟨_, rfl⟩
          rw [← hkk] at hkb HSi
          clear hkk
          have hstop : (i < cn ∧ 65536 ≤ i) ∨ i = cn := by omega
          clear hgo
          obtain ⟨v, hv⟩ : ∃ v, v = Disk.St.recovs keep (cuts.take i) u := ⟨_, rfl⟩
          rw [← hv] at KB HFi HSi
          have HRL := Lib.hid (Disk.recs_law (room := C.room) (fs := fs) HE0.out fl acts C.dir keep (cuts.take i) HS1.out HR.out HU.out rfl HNT.out)
          rw [← hv] at HRL
          rw [← HB9.out] at HRL
          clear hv
          obtain ⟨t, ht⟩ : ∃ t, t = (v.plan_ []).1 := ⟨_, rfl⟩
          rw [← ht] at HRL
          have HPL2 := Lib.hid (plan_any (w := wr2) none 0 0 [] nob (Lib.hid KB.out.kd.at_) (Lib.hid rfl) (Lib.hid (SliceAt.nil _ _ _)) (Lib.hid fun _ h => h.elim) (Nat.zero_le _))
          have HFA : Hid (Disk.Fine t) := Lib.hid (by rw [ht]; exact Disk.fine_act HFi.out (.plan []))
          have HSA : Hid (Disk.Small 68719476736 t) := Lib.hid (by rw [ht]; exact Disk.small_mono (Disk.small_act HSi.out (.plan [])) (by omega))
          have HTE := Lib.hid ht
          clear ht
          have HCL : Hid (∀ (u2 : World) (F3 : Blocks), DiskAt u2 F3 d t → Calls Try.prog 22 #[.pointer (some ⟨d, 0, none⟩)] u2 fun e w' => e = .returned (.int .i64 0) ∧ DiskAt w' (grow F3 u2 w') d t.clean.1 ∧ Only F3 u2 w') := Lib.hid fun u2 F3 h => by
            have h2 := clean_any (w := u2) (Lib.hid h) HFA HSA (by omega)
            unfold DiskCall at h2
            rw [HRL.out.1] at h2
            exact h2
          obtain ⟨v2, hv2⟩ : ∃ v2, v2 = t.clean.1 := ⟨_, rfl⟩
          rw [← hv2] at HCL HRL
          have HFV2 : Hid (Disk.Fine v2) := Lib.hid (by rw [hv2]; exact Disk.fine_clean HFA.out)
          clear hv2
          have HB10 : Hid (b9 = Disk.bytesOf v2.files N) := Lib.hid HRL.out.2.2.symm
          replace hstop : (i < cn ∧ ¬ (i : Int) < 65536) ∨ i = cn := hstop.imp (fun h => ⟨h.1, by omega⟩) id
          clear hi2
          rcases hstop with ⟨hin, hge⟩ | rfl
          all_goals
            go_wp2_with fail
            refine HPL2.out.mono ?_
            rintro e wa hc
            obtain ⟨-, hk⟩ := KB.out.call hc
            obtain ⟨F3, hF3⟩ : ∃ F3, F3 = grow F2 wr2 wa := ⟨_, rfl⟩
            rw [← hF3] at hk
            have KA : Hid (Kb W wa F3 d t U9 A9 n9 (b9.getD [])) := Lib.hid (by rw [HTE.out]; exact hk)
            have he := hc.1
            subst he
            clear hc hk hF3
            go_wp2_with fail
            refine (HCL.out wa F3 KA.out.kd.at_).mono ?_
            rintro e wb ⟨rfl, hd3, ho3⟩
            have KC := Lib.hid (KA.out.next hd3 ho3)
            obtain ⟨F5, hF5⟩ : ∃ F5, F5 = grow F3 wa wb := ⟨_, rfl⟩
            rw [← hF5] at KC
            clear hd3 ho3 hF5
            have c3 := (HBX.out wb KC.out.kd.below).2.2.2.1
            have HFI : Hid (∀ u2, Below wb.heap.size wb u2 → Calls Try.prog 15 #[.pointer (some ⟨d, 0, none⟩)] u2 (FilesPost u2 v2.files)) := Lib.hid fun u2 hu2 => files_any (Lib.hid (KC.out.far hu2).kd.at_) HFV2
            have HBT8 : Hid (∀ (u2 : World) (A : Option Addr) (n c : Nat) (B : Nat) (M : ByteArray), FilesOwn u2 B (.slice A n c) v2.files → Calls Try.prog 12 #[.slice A n c, .string M] u2 fun e w' => (∃ A' m c', e = .returned (.tuple #[.slice A' m c', .bool (Disk.bytesOf v2.files M.data.toList).isSome]) ∧ Hid (m = ((Disk.bytesOf v2.files M.data.toList).getD []).length) ∧ Hid (SliceAt Rep.byte u2 (btw B u2.heap.size) A' c' ((Disk.bytesOf v2.files M.data.toList).getD []))) ∧ u2 = w') := Lib.hid fun u2 A n c B M h => by
              obtain ⟨h5, h6⟩ := h.slice
              have := bytes30_any (w := u2) A n c (v2.files.map Disk.toFin) M _ (Lib.hid (by rw [List.length_map]; exact h5)) (Lib.hid h6)
              rw [Disk.bytesF_told] at this
              exact this
            go_upto_region 39 with fail
            go_cut [19, 20] from 207 (fun v15 v16 wc => ∃ (A9 : Option Addr) (m9 n9 : Nat) (U9 : Blocks), v15 = .slice A9 m9 n9 ∧ v16 = .bool there ∧ Hid (m9 = (b9.getD []).length) ∧ Hid (SliceAt Rep.byte wc U9 A9 n9 (b9.getD [])) ∧ Hid (∀ b, U9 b → b < wc.heap.size ∧ wb.heap.size ≤ b) ∧ Hid (Below wb.heap.size wb wc))
            case first =>
              as_aux_lemma =>
                have HD8 : Hid (Below wb.heap.size wb wb.drew) := Lib.hid ((Below.refl _ _).drew)
                refine wp_region_held_drew (S := fun u => u.cell? ⟨bx, 3, none⟩ = some (.string C.name)) (by kernel_rfl) c3 (fun hHeld => ?_)
                refine wpAnyH_take (i := 0) (v := ?_) rfl (by kernel_rfl) (by kernel_rfl) (by kernel_rfl) (fun _ _ _ h => h) (Or.inl ⟨by rfl, ?_⟩) (by assumption) ?_
                rotate_left 1
                · (intro w hSw; (try dsimp only at hSw); (try simp only [List.getElem_toArray, List.getElem_cons_succ, List.getElem_cons_zero]); go_simp <;> (try with_reducible rfl))
                try simp only [Act.put, List.getElem_toArray, List.getElem_cons_succ, List.getElem_cons_zero, List.setIfInBounds_toArray, List.set_cons_zero, List.set_cons_succ]
                refine wpAnyH_take (i := 2) (v := ?_) rfl (by kernel_rfl) (by kernel_rfl) (by kernel_rfl) (fun _ _ _ h => h) (Or.inl ⟨by rfl, ?_⟩) (by assumption) ?_
                rotate_left 1
                · (intro w hSw; (try dsimp only at hSw); (try simp only [List.getElem_toArray, List.getElem_cons_succ, List.getElem_cons_zero]); go_simp <;> (try with_reducible rfl))
                try simp only [Act.put, List.getElem_toArray, List.getElem_cons_succ, List.getElem_cons_zero, List.setIfInBounds_toArray, List.set_cons_zero, List.set_cons_succ]
                refine wpAnyH_take (i := 3) (v := ?_) rfl (by kernel_rfl) (by kernel_rfl) (by kernel_rfl) (fun _ _ _ h => h) (Or.inl ⟨by rfl, ?_⟩) (by assumption) ?_
                rotate_left 1
                · (intro w hSw; (try dsimp only at hSw); (try simp only [List.getElem_toArray, List.getElem_cons_succ, List.getElem_cons_zero]); go_simp <;> (try with_reducible rfl))
                try simp only [Act.put, List.getElem_toArray, List.getElem_cons_succ, List.getElem_cons_zero, List.setIfInBounds_toArray, List.set_cons_zero, List.set_cons_succ]
                refine wpAnyH_ready (rs := [1]) (by kernel_rfl) (by simp) ?_
                refine AllReadyH.cons rfl (fun K hK => ?_) AllReadyH.nil
                go_simp
                refine (HFI.out _ HD8.out).mono ?_
                rintro e w91 ⟨A, n, c, rfl, hn9, hnc9, hcm9, ho9, hb9⟩
                have HB9B : Hid (Below wb.heap.size wb w91) := Lib.hid (HD8.out.trans (hb9.mono HD8.out.size))
                have HLO : Hid (wb.heap.size ≤ wb.drew.heap.size) := Lib.hid HD8.out.size
                have HBT9 := Lib.hid (HBT8.out w91 A n c _ C.name ho9)
                rw [← HN.out, ← HB10.out] at HBT9
                clear hn9 ho9 hb9
                have d3 := (HBX.out w91 (KC.out.kd.below.trans (HB9B.out.mono KC.out.kd.below.size))).2.2.2.1
                go_wp2_with fail
                refine hK.out _ _ d3 (fun hHeld => ?_)
                clear hK K
                try simp only [Act.put, List.getElem_toArray, List.getElem_cons_succ, List.getElem_cons_zero, List.setIfInBounds_toArray, List.set_cons_zero, List.set_cons_succ]
                refine wpAnyH_ready (rs := [4]) (by kernel_rfl) (by simp) ?_
                refine AllReadyH.cons rfl (fun K hK => ?_) AllReadyH.nil
                go_simp
                refine HBT9.out.mono ?_
                rintro e w92 ⟨⟨A', m', c', rfl, hm', hs'⟩, rfl⟩
                rw [HTH.out]
                go_wp2_with fail
                refine hK.out _ _ d3 (fun hHeld => ?_)
                clear hK K
                try simp only [Act.put, List.getElem_toArray, List.getElem_cons_succ, List.getElem_cons_zero, List.setIfInBounds_toArray, List.set_cons_zero, List.set_cons_succ]
                refine wpAnyH_take (i := 5) (v := ?_) rfl (by kernel_rfl) (by kernel_rfl) (by kernel_rfl) (fun _ _ _ h => h) (Or.inl ⟨by rfl, ?_⟩) (by assumption) ?_
                rotate_left 1
                · (intro w hSw; (try dsimp only at hSw); (try simp only [List.getElem_toArray, List.getElem_cons_succ, List.getElem_cons_zero]); go_simp <;> (try with_reducible rfl))
                try simp only [Act.put, List.getElem_toArray, List.getElem_cons_succ, List.getElem_cons_zero, List.setIfInBounds_toArray, List.set_cons_zero, List.set_cons_succ]
                refine wpAnyH_take (i := 6) (v := ?_) rfl (by kernel_rfl) (by kernel_rfl) (by kernel_rfl) (fun _ _ _ h => h) (Or.inl ⟨by rfl, ?_⟩) (by assumption) ?_
                rotate_left 1
                · (intro w hSw; (try dsimp only at hSw); (try simp only [List.getElem_toArray, List.getElem_cons_succ, List.getElem_cons_zero]); go_simp <;> (try with_reducible rfl))
                try simp only [Act.put, List.getElem_toArray, List.getElem_cons_succ, List.getElem_cons_zero, List.setIfInBounds_toArray, List.set_cons_zero, List.set_cons_succ]
                refine wpAnyH_take (i := 7) (v := ?_) rfl (by kernel_rfl) (by kernel_rfl) (by kernel_rfl) (fun _ _ _ h => h) (Or.inl ⟨by rfl, ?_⟩) (by assumption) ?_
                rotate_left 1
                · (intro w hSw; (try dsimp only at hSw); (try simp only [List.getElem_toArray, List.getElem_cons_succ, List.getElem_cons_zero]); go_simp <;> (try with_reducible rfl))
                try simp only [Act.put, List.getElem_toArray, List.getElem_cons_succ, List.getElem_cons_zero, List.setIfInBounds_toArray, List.set_cons_zero, List.set_cons_succ]
                refine wpAnyH_take (i := 8) (v := ?_) rfl (by kernel_rfl) (by kernel_rfl) (by kernel_rfl) (fun _ _ _ h => h) (Or.inl ⟨by rfl, ?_⟩) (by assumption) ?_
                rotate_left 1
                · (intro w hSw; (try dsimp only at hSw); (try simp only [List.getElem_toArray, List.getElem_cons_succ, List.getElem_cons_zero]); go_simp <;> (try with_reducible rfl))
                try simp only [Act.put, List.getElem_toArray, List.getElem_cons_succ, List.getElem_cons_zero, List.setIfInBounds_toArray, List.set_cons_zero, List.set_cons_succ]
                refine wpAnyH_take (i := 9) (v := ?_) rfl (by kernel_rfl) (by kernel_rfl) (by kernel_rfl) (fun _ _ _ h => h) (Or.inl ⟨by rfl, ?_⟩) (by assumption) ?_
                rotate_left 1
                · (intro w hSw; (try dsimp only at hSw); (try simp only [List.getElem_toArray, List.getElem_cons_succ, List.getElem_cons_zero]); go_simp <;> (try with_reducible rfl))
                try simp only [Act.put, List.getElem_toArray, List.getElem_cons_succ, List.getElem_cons_zero, List.setIfInBounds_toArray, List.set_cons_zero, List.set_cons_succ]
                refine wpAnyH_done (by kernel_rfl) ?_ _
                go_wp2_with fail
                go_meet
                case rel => exact ⟨A', m', c', _, rfl, rfl, hm', hs', Lib.hid fun b hb => ⟨hb.2, Nat.le_trans HLO.out hb.1⟩, HB9B⟩
            case rest =>
            obtain ⟨A7, m7, n7, U7, rfl, rfl, HM7, HS7, HU7, HC7⟩ := hcut
            obtain ⟨wd, rfl⟩ : ∃ X : World, X = wc := ⟨_, rfl⟩
            have KD := Lib.hid (KC.out.far HC7.out)
            have HSTL : Hid (Calls Try.prog 23 #[.pointer (some ⟨d, 0, none⟩)] wd fun e w' => ∃ A c, e = .returned (.slice A 0 c) ∧ c ≤ 9223372036854775807 ∧ Below wd.heap.size wd w') := Lib.hid ((stale_any (Lib.hid KD.out.kd.at_) HFV2 (by rw [HRL.out.2.1]; decide)).mono fun e w2 h => by
              obtain ⟨A, n, c, h1, h2, h3, h4, -, h5⟩ := h
              obtain rfl : n = 0 := h2.out.trans (by rw [HRL.out.2.1]; rfl)
              exact ⟨A, c, h1, h4, h5⟩)
            have hthb : (there == there) = true := by simp
            go_wp2_with fail
            refine HSTL.out.mono ?_
            rintro e we ⟨sA, sc, rfl, hsc, hbe⟩
            have HBE := Lib.hid hbe
            have HEQF : Hid (Calls Try.prog 17 #[.slice A7 m7 n7, .slice A9 m9 n9] we fun e w' => e = .returned (.bool true) ∧ Below we.heap.size we w') := Lib.hid (eqB30 A7 A9 m7 m9 n7 n9 _ _ true we _ _ HM7 HM9 (Lib.hid (by simp)) (Lib.hid (HS7.out.keep (fun _ h => h) (Same.of_below hbe fun b hb => (HU7.out b hb).1))) (Lib.hid (KD.out.far hbe).sl))
            clear hbe
            go_wp2_with fail
            refine HEQF.out.mono ?_
            rintro e wf ⟨rfl, hbf⟩
            have HBF := Lib.hid (hback.out _ (((KD.out.far HBE.out).far hbf).kd.below))
            clear hbf
            go_wp2_with fail
            go_ret
            exact ⟨rfl, HBF.out⟩
end
end Go.Proofs.Ytfommpbblpnljaa
