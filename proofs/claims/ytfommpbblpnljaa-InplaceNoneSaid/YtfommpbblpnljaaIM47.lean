/- Texts that lead to the claim, one behind the other: The walk of inplace.Edit. Condition: the counts are below 2^40. -/
import Derived.Test.YtfommpbblpnljaaIM43
import Derived.Test.YtfommpbblpnljaaIM44
import Derived.Test.YtfommpbblpnljaaIM45
import Derived.Test.YtfommpbblpnljaaIM46
import Derived.Test.YtfommpbblpnljaaIM38
import Derived.Test.YtfommpbblpnljaaIM41
import Derived.Test.YtfommpbblpnljaaIM40
import Derived.Test.YtfommpbblpnljaaIM42
import Derived.Test.YtfommpbblpnljaaIM37
import Derived.Test.YtfommpbblpnljaaIM8
import Derived.StillTailTactics
namespace Go.Proofs.Ytfommpbblpnljaa
open Go.RowKit Go.ChangeShapes Go.WideShapes Go.Deep

section
variable {w W W' : World} {F G : Blocks} {d : Nat} {s : Disk.St} {v : Value} {bs : List UInt8} {l : List Bx}
theorem Ed.c0 (h : Ed w W F G d s v bs l) {b : Nat} {u : Value} {t : TypeId} (hx : (b, #[u], t) ∈ l) : W.cell? ⟨b, 0, none⟩ = some u := (h.cell _ hx 0).trans rfl
theorem rm_any (n : ByteArray) (hn : n.size ≤ maxLen) (HA : Hid (DiskAt w F d s)) (hf : Hid (Disk.Fine s)) {k : Nat} (hk : Hid (Disk.Small k s)) (hkb : k ≤ 1099511627776) :
    Calls Try.prog 27 #[.pointer (some ⟨d, 0, none⟩), .string n] w (DiskCall w F d (s.remove n.data.toList)) := by
  obtain ⟨loc, blk, bn, bo, rowv, pA, pC, hB⟩ := HA.out
  refine (remove_at n hn (Lib.hid hB) hf hk hkb).mono ?_
  rintro e w' ⟨h1, ⟨rowv', h2⟩, h3⟩
  exact ⟨h1, h2.at_, h3⟩
theorem tmp_size {N : Disk.Nm} (h : true = Disk.hasTmp N) : (baT (Disk.tmpOf N)).size ≤ maxLen := by
  have h0 : Disk.tmpOf N = Disk.tmpPre ++ N := by unfold Disk.tmpOf; rw [← h]; rfl
  have h1 : N.length ≤ 56 := by
    unfold Disk.hasTmp at h
    have h2 := h.symm
    simp only [Bool.and_eq_true, decide_eq_true_eq] at h2
    exact h2.1.2
  show (Disk.tmpOf N).toArray.size ≤ maxLen
  rw [h0]
  simp [Disk.tmpPre, maxLen]
  omega
theorem ahead_2 {s : Disk.St} {N tn : Disk.Nm} {r2 : Disk.St × Int} {q : Int} (h1 : Disk.hasTmp N = true) (h2 : (s.read N).2 = 0) (ht : tn = Disk.tmpOf N) (hr : r2 = s.remove tn) (hin : tn ∈ s.names) (hq : q = r2.2) (h0 : q ≠ 0) : s.ahead N = (r2.1, q) := by
  unfold Disk.St.ahead
  rw [if_neg (by rw [h1]; simp), if_neg (by simpa using h2), if_pos (by rw [← ht, ← hr, ← hq]; exact ⟨hin, h0⟩), ← ht, ← hr, hq]
theorem ahead_3 {s s2 : Disk.St} {N tn : Disk.Nm} {r2 : Disk.St × Int} (h1 : Disk.hasTmp N = true) (h2 : (s.read N).2 = 0) (ht : tn = Disk.tmpOf N) (hr : r2 = s.remove tn) (hn : ¬ (tn ∈ s.names ∧ r2.2 ≠ 0)) (hs : s2 = if tn ∈ s.names then r2.1 else s) : s.ahead N = s2.make tn := by
  unfold Disk.St.ahead
  rw [if_neg (by rw [h1]; simp), if_neg (by simpa using h2), if_neg (by rw [← ht, ← hr]; exact hn), ← ht, ← hr, ← hs]
/-- What Edit leaves behind. -/
def EditPost (w : World) (F Z : Blocks) (d : Nat) (s : Disk.St) (N : Disk.Nm) (R : Disk.St → Disk.St × Disk.Ou × Int) (P : Blocks → World → Prop) (e : Ending) (w' : World) : Prop :=
  e = .returned (.int .i64 (s.edit N R).2) ∧ ∃ G, DiskAt w' G d (s.edit N R).1 ∧ (∀ b, G b → F b ∨ w.heap.size ≤ b) ∧ Only (fun b => F b ∨ Z b) w w' ∧
    (((s.ahead N).2 ≠ 0 ∧ Only F w w') ∨ ((s.ahead N).2 = 0 ∧ ∃ Z', P Z' w' ∧ ∀ b, Z' b → (Z b ∨ w.heap.size ≤ b) ∧ ¬ G b ∧ b < w'.heap.size))
theorem Ed.refused {s0 : Disk.St} {N : Disk.Nm} {q : Int} (h : Ed w W F G d s v bs l) (ha : s0.ahead N = (s, q)) (hq : q ≠ 0) (Z : Blocks) (R : Disk.St → Disk.St × Disk.Ou × Int) (P : Blocks → World → Prop) : EditPost w F Z d s0 N R P (.returned (.int .i64 q)) W := by
  have he : s0.edit N R = (s, q) := by unfold Disk.St.edit; rw [if_pos (by rw [ha]; exact hq), ha]
  unfold EditPost
  rw [he, ha]
  exact ⟨rfl, G, h.disk, h.gs, h.only.mono fun _ h => .inl h, .inl ⟨hq, h.only⟩⟩
theorem EdJ.post {Z : Blocks} {t : Disk.Nm} {o dB tB : Nat} {P : Blocks → World → Prop} {ou : Disk.Ou} {s9 : Disk.St} {N : Disk.Nm} {q : Int} {R : Disk.St → Disk.St × Disk.Ou × Int} (h : EdJ w F Z d t o dB tB l P s9 ou W) (ha : (s.ahead N).2 = 0) (he : s.edit N R = (s9, q)) : EditPost w F Z d s N R P (.returned (.int .i64 q)) W := by
  obtain ⟨G, Z', h1, h2, h3, -⟩ := h
  obtain ⟨F', h4, h5⟩ := h1.out.disk
  unfold EditPost
  rw [he]
  exact ⟨rfl, F', h4, fun b hb => h1.gs b (h5 b hb), h1.only, .inr ⟨ha, Z', h2, fun b hb => ⟨(h3 b hb).1, fun hg => (h3 b hb).2.1 (h5 b hg), (h3 b hb).2.2⟩⟩⟩
theorem edit_0 {s : Disk.St} {N : Disk.Nm} {R : Disk.St → Disk.St × Disk.Ou × Int} (ha : (s.ahead N).2 = 0) : s.edit N R = Disk.St.ends (Disk.tmpOf N) (Disk.St.behindRun (Disk.tmpOf N) N (R (s.ahead N).1)) := by
  unfold Disk.St.edit; rw [if_neg (by rw [ha]; simp)]
theorem read_not_1 (s : Disk.St) (N : Disk.Nm) : (s.read N).2 ≠ 1 := by
  have hl : ∀ a b, s.looked a b ≠ 1 := fun a b => by by_cases h1 : s.on <;> by_cases h2 : (b.any fun n => !Disk.isName n) = true <;> by_cases h3 : a ≠ [] ∧ Disk.find s.now a = none <;> simp [Disk.St.looked, h1, h2, h3]
  unfold Disk.St.read
  split
  · unfold Disk.St.there; split
    · exact hl _ _
    · exact hl _ _
  · split <;> simp
set_option linter.unusedSimpArgs false in
set_option maxRecDepth 100000 in
set_option maxHeartbeats 4000000 in
theorem edit_any (HA : Hid (DiskAt w F d s)) (hf : Hid (Disk.Fine s)) {k : Nat} (hk : Hid (Disk.Small k s)) (hkb : k + 10 ≤ 1099511627776) (n : ByteArray) (hn : n.size ≤ maxLen) (fn : FuncId) (cap : Array Value) (he : ∀ args w, (callFunc fn args).run Try.prog w = .ok (.enter fn args) w) (Z : Blocks) (hZ : ∀ b, Z b → b < w.heap.size) (R : Disk.St → Disk.St × Disk.Ou × Int) (P : Blocks → World → Prop) (hP : Stays P)
    (hR : Hid (RunK w F Z d (Disk.tmpOf n.data.toList) fn cap (s.ahead n.data.toList).1 (s.read n.data.toList).1 R P)) (hRf : Hid (Disk.Fine (R (s.ahead n.data.toList).1).1)) {kr : Nat} (hRk : Hid (Disk.Small kr (R (s.ahead n.data.toList).1).1)) (hkr : kr + 10 ≤ 1099511627776) (hRl : (R (s.ahead n.data.toList).1).2.1.held.length ≤ 1099511627776) :
    Calls Try.prog 6 #[.pointer (some ⟨d, 0, none⟩), .string n, .func (.func fn) #[] cap] w (EditPost w F Z d s n.data.toList R P) := by
  obtain ⟨W0, hW0⟩ : ∃ W0, W0 = ((w.alloc (.cells #[.pointer (some ⟨d, 0, none⟩)] 22)).alloc (.cells #[.string n] 9)).alloc (.cells #[.func (.func fn) #[] cap] 34) := ⟨_, rfl⟩
  have h0 : Ed w W0 F F d s (.slice none 0 0) [] [(w.heap.size + 1 + 1, #[.func (.func fn) #[] cap], 34), (w.heap.size + 1, #[.string n], 9), (w.heap.size, #[.pointer (some ⟨d, 0, none⟩)], 22)] := by
    have h1 := (((Ed.start HA.out).push #[.pointer (some ⟨d, 0, none⟩)] 22).push #[.string n] 9).push #[.func (.func fn) #[] cap] 34
    rw [hW0]; simpa using h1
  have HRD := Lib.hid (read_any n hn (Lib.hid h0.disk) hf)
  have HTN := Lib.hid (fun W => tname_any (s := n) (w := W))
  have H0 := Lib.hid h0
  obtain ⟨N, hN⟩ : ∃ N, N = n.data.toList := ⟨_, rfl⟩
  rw [← hN] at HRD HTN
  obtain ⟨r1, hr1⟩ : ∃ r, r = s.read N := ⟨_, rfl⟩
  rw [← hr1] at HRD
  obtain ⟨q1, hq1⟩ : ∃ q, q = r1.2 := ⟨_, rfl⟩
  have HN := Lib.hid hN
  have HR1 := Lib.hid hr1
  have HQ1 := Lib.hid hq1
  clear hN hr1 hq1 h0 HA
  go_enter_defers Try.func6, Try.ntmps6
  go_wp2_with fail
  rw [← hW0]
  refine HRD.out.mono ?_
  rintro e w1 ⟨A, m, c, rfl, hm, -, -, ho1, hb1⟩
  have H1 := Lib.hid (H0.out.read ho1 hb1)
  have HM := Lib.hid hm
  rw [← HQ1.out]
  clear ho1 hb1 hm hW0
  have hq : (q1 == 1) = false := beq_eq_false_iff_ne.2 (by rw [HQ1.out, HR1.out]; exact read_not_1 _ _)
  have H2 := Lib.hid (H1.out.push #[.slice A m c] 32)
  have c4 := H2.out.c0 (b := w.heap.size + 1) (u := .string n) (t := 9) (by simp)
  have HT := Lib.hid (HTN.out (w1.alloc (.cells #[.slice A m c] 32)))
  obtain ⟨B7, hB7⟩ : ∃ B7, B7 = w1.heap.size := ⟨_, rfl⟩
  clear HRD HTN
  obtain ⟨t, ht⟩ : ∃ t, t = baT (Disk.tmpOf N) := ⟨_, rfl⟩
  obtain ⟨ok, hok⟩ : ∃ ok, ok = Disk.hasTmp N := ⟨_, rfl⟩
  have HTT := Lib.hid ht
  have HOK := Lib.hid hok
  have hans : Hid (∀ e, NameAns N e → e = .returned (.tuple #[.string t, .bool ok])) := Lib.hid fun e h => by rw [ht, hok]; exact h
  rw [← HN.out]
  clear ht hok
  go_wp2_with fail
  refine HT.out.mono ?_
  rintro e w2 ⟨he, hb⟩
  obtain rfl := hans.out e he
  have HB1 : w.heap.size + 1 < w2.heap.size := Nat.lt_of_lt_of_le (Bx.lt (H2.out.box (w.heap.size + 1, #[.string n], 9) (by simp)).1) hb.size
  have H3 := Lib.hid ((H2.out.far hb).push #[.string t] 9)
  obtain ⟨B8, hB8⟩ : ∃ B8, B8 = w2.heap.size := ⟨_, rfl⟩
  have HB8 := Lib.hid hB8
  have HB : Hid (w.heap.size + 1 < B8) := Lib.hid (by rw [hB8]; exact HB1)
  have HB7 := Lib.hid hB7
  clear he hb HT hans c4 hB7 hB8 HB1
  cases ok
  · go_wp2_with fail
    refine ⟨_, results_tmp rfl _ _ _, ?_⟩
    rw [← HN.out]
    exact H3.out.refused (by unfold Disk.St.ahead; rw [if_pos HOK.out.symm]) (by decide) Z R P
  by_cases hq0 : q1 = 0
  · have hq0b : (q1 != 0) = false := by rw [hq0]; rfl
    obtain ⟨W, hW⟩ : ∃ W, W = w2.alloc (.cells #[.string t] 9) := ⟨_, rfl⟩
    rw [← hW, ← HB8.out, ← HB7.out] at H3
    have HL : Hid (∀ u, Below W.heap.size W u → u.cell? ⟨w.heap.size, 0, none⟩ = some (.pointer (some ⟨d, 0, none⟩)) ∧ u.cell? ⟨B8, 0, none⟩ = some (.string t)) := Lib.hid fun u hu => ⟨(H3.out.far hu).c0 (t := 22) (by simp), (H3.out.far hu).c0 (t := 9) (by simp)⟩
    have HNM : Hid (∀ u, Below W.heap.size W u → Calls Try.prog 26 #[.pointer (some ⟨d, 0, none⟩)] u (StrsPost u s.names)) := Lib.hid fun u hu => diskNames_any (Lib.hid (H3.out.far hu).disk) hf
    have HCT : Hid (∀ A2 n2 c2 w2, Hid (n2 = s.names.length) → Hid (Own Rep.str 9 w2 W.drew.heap.size nob (.slice A2 n2 c2) (s.names.map ba)) → Calls Try.prog 25 #[.slice A2 n2 c2, .string t] w2 fun e w' => (∃ q, e = .returned (.bool q) ∧ (q = true ↔ t ∈ s.names.map ba)) ∧ w2 = w') := Lib.hid fun A2 n2 c2 w2 hn2 ho2 => by
      obtain ⟨A3, c3, he, hs⟩ := ho2.out.slice
      simp only [Value.slice.injEq] at he
      obtain ⟨rfl, -, rfl⟩ := he
      exact strContains_any A2 n2 c2 (s.names.map ba) t w2 _ (Lib.hid (by rw [hn2.out]; simp)) (Lib.hid hs)
    go_upto_region 9 with fail
    rw [← hW, ← HB8.out, ← HB7.out]
    clear hW
    go_cut [34] from 31 (fun v34 wc => ∃ qc, v34 = .bool qc ∧ Hid (qc = true ↔ t ∈ s.names.map ba) ∧ Hid (Below W.heap.size W wc))
    case first =>
      have HS0 := Lib.hid (HL.out W.drew ((Below.refl _ _).drew))
      refine wp_region_noPanic ?_
      refine wp_region_held_drew (S := fun u => u.cell? ⟨w.heap.size, 0, none⟩ = some (.pointer (some ⟨d, 0, none⟩)) ∧ u.cell? ⟨B8, 0, none⟩ = some (.string t)) (by kernel_rfl) HS0.out (fun hHeld => ?_)
      refine wpAnyH_take (i := 0) (v := ?_) rfl (by kernel_rfl) (by kernel_rfl) (by kernel_rfl) (fun _ _ _ h => h) (Or.inl ⟨by rfl, ?_⟩) (by assumption) ?_
      rotate_left 1
      · (intro w hSw; (try dsimp only at hSw); go_simp <;> (try with_reducible rfl))
      try simp only [Act.put, List.setIfInBounds_toArray, List.set_cons_zero, List.set_cons_succ]
      refine wpAnyH_take (i := 2) (v := ?_) rfl (by kernel_rfl) (by kernel_rfl) (by kernel_rfl) (fun _ _ _ h => h) (Or.inl ⟨by rfl, ?_⟩) (by assumption) ?_
      rotate_left 1
      · (intro w hSw; (try dsimp only at hSw); go_simp <;> (try with_reducible rfl))
      try simp only [Act.put, List.setIfInBounds_toArray, List.set_cons_zero, List.set_cons_succ]
      refine wpAnyH_ready (rs := [1]) (by kernel_rfl) (by simp) ?_
      refine AllReadyH.cons rfl (fun K hK => ?_) AllReadyH.nil
      go_simp
      refine (HNM.out W.drew ((Below.refl _ _).drew)).mono ?_
      rintro e w2 ⟨A2, n2, c2, rfl, hn2, -, -, ho2, hb2⟩
      have HB2 := Lib.hid (((Below.refl _ W).drew).trans (hb2.mono (Nat.le_refl _)))
      have HO2 := Lib.hid ho2
      have HN2 := Lib.hid hn2
      clear ho2 hb2 hn2
      have HS2 := Lib.hid (HL.out w2 HB2.out)
      go_wp2_with fail
      refine hK.out _ _ HS2.out (fun hHeld => ?_)
      clear hK K
      try simp only [Act.put, List.setIfInBounds_toArray, List.set_cons_zero, List.set_cons_succ]
      refine wpAnyH_ready (rs := [3]) (by kernel_rfl) (by simp) ?_
      refine AllReadyH.cons rfl (fun K hK => ?_) AllReadyH.nil
      go_simp
      refine (HCT.out A2 n2 c2 w2 HN2 HO2).mono ?_
      rintro e w3 ⟨⟨qc, rfl, hqc⟩, rfl⟩
      have HQC := Lib.hid hqc
      clear hqc
      go_wp2_with fail
      refine hK.out _ _ HS2.out (fun hHeld => ?_)
      clear hK K
      try simp only [Act.put, List.setIfInBounds_toArray, List.set_cons_zero, List.set_cons_succ]
      refine wpAnyH_done (by kernel_rfl) ?_ _
      refine NoPanic.normal ?_
      go_wp2_with fail
      go_meet
      case rel => exact ⟨_, rfl, HQC, HB2⟩
    case rest =>
      obtain ⟨qc, rfl, HQC, HBC⟩ := hcut
      obtain ⟨tn, htn⟩ : ∃ tn, tn = Disk.tmpOf N := ⟨_, rfl⟩
      rw [← htn] at HTT
      have htt : t.data.toList = tn := by rw [HTT.out]; rfl
      have hts : t.size ≤ maxLen := by rw [HTT.out, htn]; exact tmp_size (by rw [← HOK.out])
      have H4 := Lib.hid (H3.out.far HBC.out)
      have HIN : Hid (qc = true ↔ tn ∈ s.names) := Lib.hid (HQC.out.trans ⟨fun h => by obtain ⟨x, hx, he⟩ := List.mem_map.1 h; rw [← htt, ← he]; exact hx, fun h => List.mem_map.2 ⟨tn, h, by rw [HTT.out]; rfl⟩⟩)
      have HRM := Lib.hid (rm_any t hts (Lib.hid H4.out.disk) hf hk (by omega))
      rw [htt] at HRM
      obtain ⟨r2, hr2⟩ : ∃ r, r = s.remove tn := ⟨_, rfl⟩
      rw [← hr2] at HRM
      obtain ⟨s2, hs2⟩ : ∃ s2, s2 = if tn ∈ s.names then r2.1 else s := ⟨_, rfl⟩
      have HTN := Lib.hid htn
      have HTD := Lib.hid htt
      have HR2 := Lib.hid hr2
      have HS2 := Lib.hid hs2
      clear htn htt hr2 hs2 HQC HNM HCT HL
      go_upto_if 34 with fail
      go_cut [6] from 31 (fun v6 wc => v6 = .int .i64 0 ∧ (¬ (tn ∈ s.names ∧ r2.2 ≠ 0)) ∧ ∃ G2, Hid (Ed w wc F G2 d s2 (.slice A m c) r1.1 [(B8, #[.string t], 9), (B7, #[.slice A m c], 32), (w.heap.size + 1 + 1, #[.func (.func fn) #[] cap], 34), (w.heap.size + 1, #[.string n], 9), (w.heap.size, #[.pointer (some ⟨d, 0, none⟩)], 22)]))
      case first =>
        have c3 := H4.out.c0 (b := w.heap.size) (u := .pointer (some ⟨d, 0, none⟩)) (t := 22) (by simp)
        have c8 := H4.out.c0 (b := B8) (u := .string t) (t := 9) (by simp)
        cases qc
        · have hni : tn ∉ s.names := fun h => by have := HIN.out.2 h; revert this; simp
          go_wp2_with fail
          go_meet
          case rel => exact ⟨rfl, fun h => hni h.1, F, by rw [HS2.out, if_neg hni]; exact H4⟩
        · go_wp2_with fail
          refine HRM.out.mono ?_
          rintro e w4 hdc
          obtain ⟨he5, h5⟩ := H4.out.call hdc
          have H5 := Lib.hid h5
          obtain ⟨q2, hq2⟩ : ∃ q, q = r2.2 := ⟨_, rfl⟩
          rw [← hq2] at he5
          subst he5
          have HQ2 := Lib.hid hq2
          clear h5 hdc hq2
          by_cases hq20 : q2 = 0
          · have hq2b : (q2 != 0) = false := by rw [hq20]; rfl
            have hin : tn ∈ s.names := HIN.out.1 (by trivial)
            have HH5 : Hid (q2 = r2.2 ∧ s2 = r2.1) := Lib.hid ⟨HQ2.out, by rw [HS2.out, if_pos hin]⟩
            go_wp2_with fail
            go_meet
            case rel => exact ⟨rfl, fun h => h.2 (by rw [← HH5.out.1]; exact hq20), _, by rw [HH5.out.2]; exact H5⟩
          · have hq2b : (q2 != 0) = true := bne_iff_ne.2 hq20
            have hin : tn ∈ s.names := HIN.out.1 (by trivial)
            have HH5 := HQ2
            go_wp2_with fail
            refine ⟨_, results_tmp rfl _ _ _, ?_⟩
            rw [← HN.out]
            exact H5.out.refused (ahead_2 HOK.out.symm (by rw [← HR1.out, ← HQ1.out]; exact hq0) HTN.out HR2.out hin HH5.out hq20) hq20 Z R P
      case rest =>
        obtain ⟨rfl, HNR, G2, H5⟩ := hcut
        have hmf : ∀ (fn : Fn) (first cap : Array Value) (w : World), (Instr.makeFunc fn first cap).run Try.prog w = .ok (.func fn first cap) w := fun _ _ _ _ => rfl
        have HA3 := Lib.hid (ahead_3 HOK.out.symm (by rw [← HR1.out, ← HQ1.out]; exact hq0) HTN.out HR2.out HNR HS2.out)
        have hf2 : Hid (Disk.Fine s2) := Lib.hid (by rw [HS2.out, HR2.out]; split; exact Disk.fine_act hf.out (.remove tn); exact hf.out)
        have hk2 : Hid (Disk.Small (k + 1) s2) := Lib.hid (by rw [HS2.out, HR2.out]; split; exact Disk.small_act hk.out (.remove tn); exact Disk.small_mono hk.out (by omega))
        have HMK := Lib.hid (make_any t hts (Lib.hid H5.out.disk) hf2 hk2 (by omega))
        rw [HTD.out] at HMK
        have c3 := H5.out.c0 (b := w.heap.size) (u := .pointer (some ⟨d, 0, none⟩)) (t := 22) (by simp)
        have c8 := H5.out.c0 (b := B8) (u := .string t) (t := 9) (by simp)
        obtain ⟨r3, hr3⟩ : ∃ r, r = s2.make tn := ⟨_, rfl⟩
        rw [← hr3] at HMK HA3
        have hf3 : Hid (Disk.Fine r3.1) := Lib.hid (by rw [hr3]; exact Disk.fine_act hf2.out (.make tn))
        have hk3 : Hid (Disk.Small (k + 2) r3.1) := Lib.hid (by rw [hr3]; exact Disk.small_act hk2.out (.make tn))
        have HNR' := Lib.hid HNR
        clear hr3 HNR HRM HBC H4 H3
        go_wp2_with fail
        refine HMK.out.mono ?_
        rintro e w5 hdc
        obtain ⟨he5, h5⟩ := H5.out.call hdc
        have H6 := Lib.hid h5
        obtain ⟨q3, hq3⟩ : ∃ q, q = r3.2 := ⟨_, rfl⟩
        rw [← hq3] at he5
        subst he5
        have HQ3 := Lib.hid hq3
        clear h5 hdc hq3 c3 c8
        by_cases hq30 : q3 = 0
        · have hq3b : (q3 != 0) = false := by rw [hq30]; rfl
          rw [hq30] at HQ3
          have HA0 : (s.ahead N).2 = 0 := by rw [HA3.out]; exact HQ3.out.symm
          have HS1 : (s.ahead N).1 = r3.1 := by rw [HA3.out]
          rw [← HN.out, HS1] at hR hRf hRk
          rw [← HN.out, HS1] at hRl
          rw [← HR1.out, ← HTN.out] at hR
          have htl : tn.length ≤ maxLen := by rw [← HTD.out]; exact hts
          have HMADE := Lib.hid (H6.out.made (t := tn) #[f0V (w.heap.size + 1 + 1) B7 (w5.heap.size + 1 + 1), f1V (w5.heap.size + 1), f2V w.heap.size B8, f3V w.heap.size B8 (w.heap.size + 1)] HTT.out (Nat.ne_of_lt HB.out))
          have HF := Lib.hid (edFirst_any (w5.heap.size + 1 + 1 + 1) (w.heap.size + 1 + 1) B7 (w5.heap.size + 1 + 1) (w.heap.size + 1) n hn fn cap he A m c HM.out HMADE.out (by simp) (by simp) (by simp) (by simp) (by simp) (by simp) hZ htl R hP hR.out hRf.out hRk.out hkr hRl)
          unfold f0V f1V f2V f3V sinkV at HF
          have HA00 := Lib.hid HA0
          clear HA0
          have HNW := Lib.hid (outsNew_any w.heap.size B8 (w5.alloc (.cells #[.bool false] 4)))
          unfold sinkV at HNW
          go_wp2_with fail
          refine HNW.out.mono ?_
          rintro e w6 ⟨rfl, rfl⟩
          go_wp2_with fail
          refine HF.out.mono ?_
          rintro e w7 ⟨he7, ou7, hj⟩
          have HJ := Lib.hid hj
          obtain ⟨q7, hq7⟩ : ∃ q, q = (Disk.St.behindRun tn n.data.toList (R r3.1)).2 := ⟨_, rfl⟩
          rw [← hq7] at he7
          subst he7
          have HQ7 := Lib.hid hq7
          clear hj hq7 HF HMADE HNW
          by_cases hq70 : q7 = 0
          · have hq7b : (q7 != 0) = false := by rw [hq70]; rfl
            have c10 := HJ.out.c0 (b := w5.heap.size) (u := .bool false) (ty := 4) (by simp)
            have f10 := HJ.out.free (x := (w5.heap.size, #[.bool false], 4)) (by simp) 0
            have HJ8 := Lib.hid ((HJ.out.sub (l' := [(w5.heap.size, #[.bool false], 4)]) (by simp)).set hP (by simp) (.bool true))
            have c3 := HJ8.out.bd
            have HSD := Lib.hid (HJ8.out.calls hP (f := 40) (args := #[.pointer (some ⟨d, 0, none⟩)]) (r := ((Disk.St.behindRun tn n.data.toList (R r3.1)).1.syncDir.1, ou7, (Disk.St.behindRun tn n.data.toList (R r3.1)).1.syncDir.2)) fun G hG => hG.calls fun F' hF' => syncDir_any (Lib.hid hF') (Lib.hid (Disk.fine_behind hRf.out)) (Lib.hid (Disk.small_behind hRk.out)) (by omega))
            go_wp2_with fail
            refine HSD.out.mono ?_
            rintro e w8 ⟨rfl, h8⟩
            have H8 := Lib.hid h8
            clear h8
            go_wp2_with fail
            refine leaves_cons (f := 29) (args := #[.pointer (some ⟨w5.heap.size, 0, none⟩), .pointer (some ⟨w.heap.size, 0, none⟩), .pointer (some ⟨B8, 0, none⟩)]) (by simp) (by simp [go_sem]) ?_
            refine (undo_not w5.heap.size (H8.out.c0 (b := w5.heap.size) (u := .bool true) (ty := 4) (by simp)) _).mono ?_
            rintro e u' w9 ⟨rfl, rfl, h9⟩
            refine ⟨_, results_tmp rfl _ _ _, ?_⟩
            refine (H8.out.far hP h9).post (by rw [← HN.out]; exact HA00.out) ?_
            rw [← HN.out, edit_0 HA00.out, HA3.out, ← HTN.out]
            unfold Disk.St.ends
            rw [if_neg (by rw [HN.out, ← HQ7.out, hq70]; simp), HN.out]
          · have hq7b : (q7 != 0) = true := bne_iff_ne.2 hq70
            go_wp2_with fail
            refine leaves_cons (f := 29) (args := #[.pointer (some ⟨w5.heap.size, 0, none⟩), .pointer (some ⟨w.heap.size, 0, none⟩), .pointer (some ⟨B8, 0, none⟩)]) (by simp) (by simp [go_sem]) ?_
            refine (HJ.out.undo hP (bR := w5.heap.size) (by simp) (Disk.fine_behind hRf.out) (Disk.small_behind hRk.out) (by omega) htl _).mono ?_
            rintro e u' w9 ⟨rfl, rfl, h9⟩
            refine ⟨_, results_tmp rfl _ _ _, ?_⟩
            refine h9.post (by rw [← HN.out]; exact HA00.out) ?_
            rw [← HN.out, edit_0 HA00.out, HA3.out, ← HTN.out]
            unfold Disk.St.ends
            rw [if_pos (by rw [HN.out, ← HQ7.out]; exact hq70), HN.out, ← HQ7.out]
        · have hq3b : (q3 != 0) = true := bne_iff_ne.2 hq30
          go_wp2_with fail
          refine ⟨_, results_tmp rfl _ _ _, ?_⟩
          rw [← HN.out]
          exact H6.out.refused (by rw [HA3.out, HQ3.out]) hq30 Z R P
  · have hq0b : (q1 != 0) = true := bne_iff_ne.2 hq0
    go_wp2_with fail
    refine ⟨_, results_tmp rfl _ _ _, ?_⟩
    rw [← HN.out]
    exact H3.out.refused (by unfold Disk.St.ahead; rw [if_neg (by rw [← HOK.out]; simp), if_pos (by rw [← HR1.out, ← HQ1.out]; exact hq0), ← HR1.out, ← HQ1.out]) hq0 Z R P
end
end Go.Proofs.Ytfommpbblpnljaa
