/- The document's canonical command line: the walk of galleyref28.Print (printed by gen/refprint28.py). Condition: at most 2^32 parts and files. -/
import Derived.Test.YtmjagjcaepbklaaDoorOptsPrint
import Derived.Test.YtmjagjcaepbklaaDoorWideOptions
namespace Go.Proofs.YtmjagjcaepbklaaDoor
open Go.RowKit

theorem if1_len {α : Type} (b : Bool) (x : α) : (if b = true then [x] else []).length ≤ 1 := by cases b <;> simp
/-- A list on its way: a row of the call's own. -/
def Wey (W0 : World) (L : List ByteArray) (v : Value) (wc : World) : Prop := ∃ A n c, v = .slice A n c ∧ n ≤ c ∧ c ≤ 9223372036854775807 ∧ Hid (Own Rep.str 9 wc W0.heap.size nob (.slice A n c) L) ∧ Hid (Below W0.heap.size W0 wc)
set_option maxRecDepth 100000 in
set_option maxHeartbeats 8000000 in
theorem refPrint_any (q e a i : Bool) (ps : List Opts.Prt) (fs : List ByteArray) (A C : Option Addr) (n m ca cc : Nat) (w : World) (hn : Hid (n = ps.length)) (hm : Hid (m = fs.length))
    (h1 : Hid (SliceAt Rep.prt w (under w.heap.size) A ca ps)) (h2 : Hid (SliceAt Rep.str w (under w.heap.size) C cc fs)) (hb : n ≤ 4294967296) (hmb : m ≤ 4294967296) :
    Calls Tryd.prog 21 #[.agg #[.bool q, .bool e, .bool a, .bool i, .slice A n ca, .slice C m cc]] w fun e' w' => ∃ v, e' = .returned v ∧ Own Rep.str 9 w' w.heap.size nob v (Opts.print ⟨⟨q, e, a, i⟩, ps, fs⟩) ∧ Below w.heap.size w w' := by
  have hnc := h1.out.len
  have hcm := h1.out.max
  have hmc := h2.out.len
  have hdm := h2.out.max
  rw [← hn.out] at hnc
  rw [← hm.out] at hmc
  obtain ⟨W0, hW0⟩ : ∃ W0, W0 = w.alloc (oObj ⟨q, e, a, i⟩ (.slice A n ca) (.slice C m cc)) := ⟨_, rfl⟩
  have HW0 := Lib.hid hW0
  have hobj : W0.heap[w.heap.size]? = some (oObj ⟨q, e, a, i⟩ (.slice A n ca) (.slice C m cc)) := by rw [hW0]; exact heap_alloc_new _ _
  have hb0 : Below w.heap.size w W0 := by rw [hW0]; exact (Below.refl _ _).alloc (Nat.le_refl _) _
  have hs0 : W0.heap.size = w.heap.size + 1 := by rw [hW0]; simp
  have HB0 := Lib.hid hb0
  have HOBJ : Hid (∀ W, Below W0.heap.size W0 W → W.heap[w.heap.size]? = some (oObj ⟨q, e, a, i⟩ (.slice A n ca) (.slice C m cc))) := Lib.hid fun W hW => (hW.block _ (by omega)).trans hobj
  have HI1 : Hid (∀ W, Below W0.heap.size W0 W → SliceAt Rep.prt W (under w.heap.size) A ca ps) := Lib.hid fun W hW => h1.out.keep (fun _ h => h) (Same.of_below (hb0.trans (hW.mono hb0.size)) fun _ h => h)
  have HI2 : Hid (∀ W, Below W0.heap.size W0 W → SliceAt Rep.str W (under w.heap.size) C cc fs) := Lib.hid fun W hW => h2.out.keep (fun _ h => h) (Same.of_below (hb0.trans (hW.mono hb0.size)) fun _ h => h)
  clear hW0 hobj hb0
  go_enter Tryd.func21, Tryd.ntmps21
  go_upto_region 1 with fail
  go_cut [19] from 7 (fun v wc => v = .bool (Opts.bad ⟨⟨q, e, a, i⟩, ps, fs⟩) ∧ wc = W0)
  case first =>
    by_cases hn0 : n = 0
    · have HB : Hid (Opts.bad ⟨⟨q, e, a, i⟩, ps, fs⟩ = true) := Lib.hid (by have : ps = [] := List.length_eq_zero_iff.1 (by rw [← hn.out]; exact hn0); subst this; rfl)
      subst hn0
      cases i
      · go_wp2_with fail
        go_meet
        case rel => exact ⟨by rw [HB.out], HW0.out.symm⟩
      · cases a
        · go_wp2_with fail
          go_meet
          case rel => exact ⟨by rw [HB.out], HW0.out.symm⟩
        · go_wp2_with fail
          go_meet
          case rel => exact ⟨by rw [HB.out], HW0.out.symm⟩
    · have hd : ((n : Int) == 0) = false := by rw [beq_eq_false_iff_ne]; omega
      have HB : Hid (Opts.bad ⟨⟨q, e, a, i⟩, ps, fs⟩ = (i && !a)) := Lib.hid (by cases hp : ps with
        | nil => exact absurd hn.out (by rw [hp]; exact hn0)
        | cons x r => rfl)
      cases i
      · go_wp2_with fail
        go_meet
        case rel => exact ⟨by rw [HB.out]; rfl, HW0.out.symm⟩
      · cases a
        · go_wp2_with fail
          go_meet
          case rel => exact ⟨by rw [HB.out]; rfl, HW0.out.symm⟩
        · go_wp2_with fail
          go_meet
          case rel => exact ⟨by rw [HB.out]; rfl, HW0.out.symm⟩
  case rest =>
    obtain ⟨rfl, hwc⟩ := hcut
    by_cases hbad : Opts.bad ⟨⟨q, e, a, i⟩, ps, fs⟩ = true
    · have HB := Lib.hid hbad
      rw [hbad, hwc]
      clear hbad
      go_wp2_with fail
      go_ret
      refine ⟨_, rfl, ?_, HB0.out⟩
      unfold Opts.print
      rw [if_pos HB.out]
      exact Own.nil _ _ _ _
    have hbad2 : Opts.bad ⟨⟨q, e, a, i⟩, ps, fs⟩ = false := by simpa using hbad
    have HB := Lib.hid hbad2
    rw [hbad2, hwc]
    clear hbad hbad2 hwc
    have HY0 : Hid (Wey W0 [] (.slice none 0 0) W0) := Lib.hid ⟨none, 0, 0, rfl, Nat.le_refl _, by omega, Lib.hid (Own.nil _ _ _ _), Lib.hid (Below.refl _ _)⟩
    obtain ⟨A1, n1, c1, hv1, hnc1, hcm1, HO1, HB1⟩ : ∃ A1 n1 c1, (Value.slice none 0 0 = .slice A1 n1 c1) ∧ n1 ≤ c1 ∧ c1 ≤ 9223372036854775807 ∧ Hid (Own Rep.str 9 W0 W0.heap.size nob (.slice A1 n1 c1) ([] : List ByteArray)) ∧ Hid (Below W0.heap.size W0 W0) := ⟨none, 0, 0, rfl, Nat.le_refl _, by omega, Lib.hid (Own.nil _ _ _ _), Lib.hid (Below.refl _ _)⟩
    have hv1' := hv1
    simp only [Value.slice.injEq] at hv1'
    obtain ⟨rfl, rfl, rfl⟩ := hv1'
    clear hv1
    have HLEN : Hid (([] : List ByteArray).length ≤ 0) := Lib.hid (by simp)
    obtain ⟨k0, k1, k2, k3, k4, k5⟩ := oObj_cells (HOBJ.out W0 (Below.refl _ _))
    go_upto_if 21 with fail
    go_cut [3] from 21 (fun v wc => Hid (Wey W0 (([] : List ByteArray) ++ (if q = true then [(⟨#[45, 110]⟩ : ByteArray)] else [])) v wc))
    case first =>
      rcases Bool.eq_false_or_eq_true q with hv | hv
      · subst hv
        go_wp2_with (at_builtin; go_loud (refine wpList_append_Own _ rfl (.tmp 22) (.tmp 23) 22 rfl Rep.str W0.heap.size 9 16 stStr nob (.slice none 0 0) _ rfl (HO1.out.alloc _) (under (W0.heap.size + 1)) _ _ [⟨#[45, 110]⟩] rfl (str1 _ _ _ _ (by decide) (by first | rfl | omega | simp) _ (by first | omega | simp)) nob (fun _ h => h.elim) (fun _ h => h) (fun _ _ h => h) (by have := HLEN.out; first | omega | (simp only [List.length_cons, List.length_nil] <;> omega) | (simp <;> omega)) (by have := HLEN.out; first | omega | (simp only [List.length_cons, List.length_nil] <;> omega) | (simp <;> omega)) (by have := HB1.out.size; simp <;> omega) ?_); intro v3 w3 hown3 hg3 hat3; obtain ⟨A3, n3, c3, rfl, -, k31, k32⟩ := hown3.form; have HB3 := Lib.hid (below_own (HB1.out.alloc HB1.out.size _) (HO1.out.alloc _) hg3 (HB1.out.alloc HB1.out.size _).size); have HOWN3 := Lib.hid hown3; clear hown3 hg3 hat3)
        go_meet
        case rel => exact Lib.hid ⟨A3, n3, c3, rfl, k31, k32, Lib.hid (by simpa using HOWN3.out), HB3⟩
      · subst hv
        go_wp2_with fail
        go_meet
        case rel => exact Lib.hid ⟨none, 0, 0, rfl, hnc1, hcm1, Lib.hid (by simpa using HO1.out), HB1⟩
    case rest =>
    obtain ⟨wy1, hwy⟩ : ∃ W : World, W = wc := ⟨_, rfl⟩
    rw [← hwy] at hcut ⊢
    clear hwy k0 k1 k2 k3 k4 k5 hnc1 hcm1 HO1 HB1
    have HLEN2 : Hid ((([] : List ByteArray) ++ (if q = true then [(⟨#[45, 110]⟩ : ByteArray)] else [])).length ≤ 1) := Lib.hid (by rw [List.length_append]; have h1 := HLEN.out; have h2 := if1_len q (⟨#[45, 110]⟩ : ByteArray); omega)
    clear HLEN
    have HLEN := HLEN2
    clear HLEN2
    obtain ⟨A1, n1, c1, rfl, hnc1, hcm1, HO1, HB1⟩ := hcut.out
    clear hcut
    obtain ⟨k0, k1, k2, k3, k4, k5⟩ := oObj_cells (HOBJ.out wy1 HB1.out)
    go_upto_if 26 with fail
    go_cut [3] from 26 (fun v wc => Hid (Wey W0 ((([] : List ByteArray) ++ (if q = true then [(⟨#[45, 110]⟩ : ByteArray)] else [])) ++ (if e = true then [(⟨#[45, 69]⟩ : ByteArray)] else [])) v wc))
    case first =>
      rcases Bool.eq_false_or_eq_true e with hv | hv
      · subst hv
        go_wp2_with (at_builtin; go_loud (refine wpList_append_Own _ rfl (.tmp 27) (.tmp 28) 22 rfl Rep.str W0.heap.size 9 16 stStr nob (.slice A1 n1 c1) _ rfl (HO1.out.alloc _) (under (wy1.heap.size + 1)) _ _ [⟨#[45, 69]⟩] rfl (str1 _ _ _ _ (by decide) (by first | rfl | omega | simp) _ (by first | omega | simp)) nob (fun _ h => h.elim) (fun _ h => h) (fun _ _ h => h) (by have := HLEN.out; first | omega | (simp only [List.length_cons, List.length_nil] <;> omega) | (simp <;> omega)) (by have := HLEN.out; first | omega | (simp only [List.length_cons, List.length_nil] <;> omega) | (simp <;> omega)) (by have := HB1.out.size; simp <;> omega) ?_); intro v3 w3 hown3 hg3 hat3; obtain ⟨A3, n3, c3, rfl, -, k31, k32⟩ := hown3.form; have HB3 := Lib.hid (below_own (HB1.out.alloc HB1.out.size _) (HO1.out.alloc _) hg3 (HB1.out.alloc HB1.out.size _).size); have HOWN3 := Lib.hid hown3; clear hown3 hg3 hat3)
        go_meet
        case rel => exact Lib.hid ⟨A3, n3, c3, rfl, k31, k32, Lib.hid (by simpa using HOWN3.out), HB3⟩
      · subst hv
        go_wp2_with fail
        go_meet
        case rel => exact Lib.hid ⟨A1, n1, c1, rfl, hnc1, hcm1, Lib.hid (by simpa using HO1.out), HB1⟩
    case rest =>
    obtain ⟨wy2, hwy⟩ : ∃ W : World, W = wc := ⟨_, rfl⟩
    rw [← hwy] at hcut ⊢
    clear hwy k0 k1 k2 k3 k4 k5 A1 n1 c1 hnc1 hcm1 HO1 HB1
    have HLEN2 : Hid (((([] : List ByteArray) ++ (if q = true then [(⟨#[45, 110]⟩ : ByteArray)] else [])) ++ (if e = true then [(⟨#[45, 69]⟩ : ByteArray)] else [])).length ≤ 2) := Lib.hid (by rw [List.length_append]; have h1 := HLEN.out; have h2 := if1_len e (⟨#[45, 69]⟩ : ByteArray); omega)
    clear HLEN
    have HLEN := HLEN2
    clear HLEN2
    obtain ⟨A1, n1, c1, rfl, hnc1, hcm1, HO1, HB1⟩ := hcut.out
    clear hcut
    obtain ⟨k0, k1, k2, k3, k4, k5⟩ := oObj_cells (HOBJ.out wy2 HB1.out)
    go_upto_region 8 with fail
    go_cut [36] from 30 (fun v wc => v = .bool (a && !i) ∧ wc = wy2)
    case first =>
      cases a
      · go_wp2_with fail
        go_meet
        case rel => exact ⟨rfl, rfl⟩
      · go_wp2_with fail
        go_meet
        case rel => exact ⟨rfl, rfl⟩
    case rest =>
    obtain ⟨rfl, hwc⟩ := hcut
    rw [hwc]
    clear hwc
    obtain ⟨b, hb'⟩ : ∃ b, b = (a && !i) := ⟨_, rfl⟩
    rw [← hb']
    have HBB := Lib.hid hb'
    clear hb'
    go_upto_if 36 with fail
    go_cut [3] from 36 (fun v wc => Hid (Wey W0 (((([] : List ByteArray) ++ (if q = true then [(⟨#[45, 110]⟩ : ByteArray)] else [])) ++ (if e = true then [(⟨#[45, 69]⟩ : ByteArray)] else [])) ++ (if b = true then [(⟨#[45, 115]⟩ : ByteArray)] else [])) v wc))
    case first =>
      rcases Bool.eq_false_or_eq_true b with hv | hv
      · subst hv
        go_wp2_with (at_builtin; go_loud (refine wpList_append_Own _ rfl (.tmp 37) (.tmp 38) 22 rfl Rep.str W0.heap.size 9 16 stStr nob (.slice A1 n1 c1) _ rfl (HO1.out.alloc _) (under (wy2.heap.size + 1)) _ _ [⟨#[45, 115]⟩] rfl (str1 _ _ _ _ (by decide) (by first | rfl | omega | simp) _ (by first | omega | simp)) nob (fun _ h => h.elim) (fun _ h => h) (fun _ _ h => h) (by have := HLEN.out; first | omega | (simp only [List.length_cons, List.length_nil] <;> omega) | (simp <;> omega)) (by have := HLEN.out; first | omega | (simp only [List.length_cons, List.length_nil] <;> omega) | (simp <;> omega)) (by have := HB1.out.size; simp <;> omega) ?_); intro v3 w3 hown3 hg3 hat3; obtain ⟨A3, n3, c3, rfl, -, k31, k32⟩ := hown3.form; have HB3 := Lib.hid (below_own (HB1.out.alloc HB1.out.size _) (HO1.out.alloc _) hg3 (HB1.out.alloc HB1.out.size _).size); have HOWN3 := Lib.hid hown3; clear hown3 hg3 hat3)
        go_meet
        case rel => exact Lib.hid ⟨A3, n3, c3, rfl, k31, k32, Lib.hid (by simpa using HOWN3.out), HB3⟩
      · subst hv
        go_wp2_with fail
        go_meet
        case rel => exact Lib.hid ⟨A1, n1, c1, rfl, hnc1, hcm1, Lib.hid (by simpa using HO1.out), HB1⟩
    case rest =>
    obtain ⟨wy3, hwy⟩ : ∃ W : World, W = wc := ⟨_, rfl⟩
    rw [← hwy] at hcut ⊢
    clear hwy k0 k1 k2 k3 k4 k5 A1 n1 c1 hnc1 hcm1 HO1 HB1
    have HLEN2 : Hid ((((([] : List ByteArray) ++ (if q = true then [(⟨#[45, 110]⟩ : ByteArray)] else [])) ++ (if e = true then [(⟨#[45, 69]⟩ : ByteArray)] else [])) ++ (if b = true then [(⟨#[45, 115]⟩ : ByteArray)] else [])).length ≤ 3) := Lib.hid (by rw [List.length_append]; have h1 := HLEN.out; have h2 := if1_len b (⟨#[45, 115]⟩ : ByteArray); omega)
    clear HLEN
    have HLEN := HLEN2
    clear HLEN2
    obtain ⟨A1, n1, c1, rfl, hnc1, hcm1, HO1, HB1⟩ := hcut.out
    clear hcut
    obtain ⟨k0, k1, k2, k3, k4, k5⟩ := oObj_cells (HOBJ.out wy3 HB1.out)
    go_upto_if 41 with fail
    go_cut [3] from 41 (fun v wc => Hid (Wey W0 ((((([] : List ByteArray) ++ (if q = true then [(⟨#[45, 110]⟩ : ByteArray)] else [])) ++ (if e = true then [(⟨#[45, 69]⟩ : ByteArray)] else [])) ++ (if b = true then [(⟨#[45, 115]⟩ : ByteArray)] else [])) ++ (if i = true then [(⟨#[45, 105]⟩ : ByteArray)] else [])) v wc))
    case first =>
      rcases Bool.eq_false_or_eq_true i with hv | hv
      · subst hv
        go_wp2_with (at_builtin; go_loud (refine wpList_append_Own _ rfl (.tmp 42) (.tmp 43) 22 rfl Rep.str W0.heap.size 9 16 stStr nob (.slice A1 n1 c1) _ rfl (HO1.out.alloc _) (under (wy3.heap.size + 1)) _ _ [⟨#[45, 105]⟩] rfl (str1 _ _ _ _ (by decide) (by first | rfl | omega | simp) _ (by first | omega | simp)) nob (fun _ h => h.elim) (fun _ h => h) (fun _ _ h => h) (by have := HLEN.out; first | omega | (simp only [List.length_cons, List.length_nil] <;> omega) | (simp <;> omega)) (by have := HLEN.out; first | omega | (simp only [List.length_cons, List.length_nil] <;> omega) | (simp <;> omega)) (by have := HB1.out.size; simp <;> omega) ?_); intro v3 w3 hown3 hg3 hat3; obtain ⟨A3, n3, c3, rfl, -, k31, k32⟩ := hown3.form; have HB3 := Lib.hid (below_own (HB1.out.alloc HB1.out.size _) (HO1.out.alloc _) hg3 (HB1.out.alloc HB1.out.size _).size); have HOWN3 := Lib.hid hown3; clear hown3 hg3 hat3)
        go_meet
        case rel => exact Lib.hid ⟨A3, n3, c3, rfl, k31, k32, Lib.hid (by simpa using HOWN3.out), HB3⟩
      · subst hv
        go_wp2_with fail
        go_meet
        case rel => exact Lib.hid ⟨A1, n1, c1, rfl, hnc1, hcm1, Lib.hid (by simpa using HO1.out), HB1⟩
    case rest =>
    obtain ⟨wy4, hwy⟩ : ∃ W : World, W = wc := ⟨_, rfl⟩
    rw [← hwy] at hcut ⊢
    clear hwy k0 k1 k2 k3 k4 k5 A1 n1 c1 hnc1 hcm1 HO1 HB1
    have HLEN2 : Hid (((((([] : List ByteArray) ++ (if q = true then [(⟨#[45, 110]⟩ : ByteArray)] else [])) ++ (if e = true then [(⟨#[45, 69]⟩ : ByteArray)] else [])) ++ (if b = true then [(⟨#[45, 115]⟩ : ByteArray)] else [])) ++ (if i = true then [(⟨#[45, 105]⟩ : ByteArray)] else [])).length ≤ 4) := Lib.hid (by rw [List.length_append]; have h1 := HLEN.out; have h2 := if1_len i (⟨#[45, 105]⟩ : ByteArray); omega)
    clear HLEN
    have HLEN := HLEN2
    clear HLEN2
    obtain ⟨A1, n1, c1, rfl, hnc1, hcm1, HO1, HB1⟩ := hcut.out
    clear hcut
    obtain ⟨k0, k1, k2, k3, k4, k5⟩ := oObj_cells (HOBJ.out wy4 HB1.out)
    obtain ⟨LF, hLF⟩ : ∃ LF, LF = ((((([] : List ByteArray) ++ (if q = true then [(⟨#[45, 110]⟩ : ByteArray)] else [])) ++ (if e = true then [(⟨#[45, 69]⟩ : ByteArray)] else [])) ++ (if b = true then [(⟨#[45, 115]⟩ : ByteArray)] else [])) ++ (if i = true then [(⟨#[45, 105]⟩ : ByteArray)] else [])) := ⟨_, rfl⟩
    rw [← hLF] at HLEN HO1
    have HLF : Hid (LF = Opts.flagL (Opts.flagB ⟨q, e, a, i⟩)) := Lib.hid (by rw [hLF, HBB.out]; simp [Opts.flagL, Opts.flagB])
    clear hLF
    go_wp2_with fail
    clear k0 k1 k2 k3 k4 k5
    go_loopg [3, 4, 5] n (fun k v3 v4 v5 wr => ∃ (j : Nat) (A1 : Option Addr) (n1 c1 : Nat), j ≤ n ∧ v3 = .slice A1 n1 c1 ∧ v4 = .int .i64 j ∧ k = n - j ∧ n1 ≤ c1 ∧ c1 ≤ 9223372036854775807 ∧ Hid (Own Rep.str 9 wr W0.heap.size nob (.slice A1 n1 c1) (LF ++ Opts.partsL (ps.take j))) ∧ Hid (Below W0.heap.size W0 wr))
    case atStart => exact ⟨0, _, _, _, Nat.zero_le _, rfl, rfl, rfl, hnc1, hcm1, Lib.hid (by simpa [Opts.partsL] using HO1.out), HB1⟩
    case round =>
      clear hnc1 hcm1 HO1 HB1
      obtain ⟨j, A1, n1, c1, hj, rfl, rfl, rfl, hnc1, hcm1, HO1, HB1⟩ := hrel
      obtain ⟨k0, k1, k2, k3, k4, k5⟩ := oObj_cells (HOBJ.out wr HB1.out)
      have HLENp : Hid ((LF ++ Opts.partsL (ps.take j)).length ≤ 4 + 2 * n) := Lib.hid (by have := HLEN.out; rw [List.length_append, Opts.partsL_len, List.length_take]; omega)
      by_cases hjn : j < n
      · have hjl : j < ps.length := by have := hn.out; omega
        obtain ⟨g, o, rfl, -, y0, y1, hxs⟩ := (HI1.out wr HB1.out).prts hjl
        have HPT := Lib.hid (Opts.partsL_take ps j hjl)
        obtain ⟨⟨x, y⟩, hx⟩ : ∃ x, x = ps[j] := ⟨_, rfl⟩
        rw [← hx] at y0 y1 hxs HPT
        have HXS : Hid (y.size ≤ maxLen) := Lib.hid (by simpa [maxLen] using hxs)
        simp only at y0 y1
        clear hx hxs
        rename Hid (LF.length ≤ _) => HLF4
        have HLEN := HLENp
        clear HLENp
        cases x
        · go_wp2_with (at_builtin; go_loud (refine wpList_append_Own _ rfl (.tmp 58) (.tmp 66) 22 rfl Rep.str W0.heap.size 9 16 stStr nob (.slice A1 n1 c1) _ rfl (HO1.out.alloc _) (under (wr.heap.size + 1)) _ _ [⟨#[45, 101]⟩, y] rfl (str2 _ _ _ _ _ (by decide) HXS.out (by first | rfl | omega | simp) _ (by first | omega | simp)) nob (fun _ h => h.elim) (fun _ h => h) (fun _ _ h => h) (by have := HLEN.out; first | omega | (simp only [List.length_cons, List.length_nil] <;> omega) | (simp <;> omega)) (by have := HLEN.out; first | omega | (simp only [List.length_cons, List.length_nil] <;> omega) | (simp <;> omega)) (by have := HB1.out.size; simp <;> omega) ?_); intro v3 w3 hown3 hg3 hat3; obtain ⟨A3, n3, c3, rfl, -, k31, k32⟩ := hown3.form; have HB3 := Lib.hid (below_own (HB1.out.alloc HB1.out.size _) (HO1.out.alloc _) hg3 (HB1.out.alloc HB1.out.size _).size); have HOWN3 := Lib.hid hown3; clear hown3 hg3 hat3)
          go_roundg (n - (j + 1))
          case measure => omega
          case rel => exact ⟨j + 1, _, _, _, by omega, rfl, by go_num, rfl, k31, k32, Lib.hid (by rw [HPT.out]; simpa using HOWN3.out), HB3⟩
        · go_wp2_with (at_builtin; go_loud (refine wpList_append_Own _ rfl (.tmp 58) (.tmp 66) 22 rfl Rep.str W0.heap.size 9 16 stStr nob (.slice A1 n1 c1) _ rfl (HO1.out.alloc _) (under (wr.heap.size + 1)) _ _ [⟨#[45, 102]⟩, y] rfl (str2 _ _ _ _ _ (by decide) HXS.out (by first | rfl | omega | simp) _ (by first | omega | simp)) nob (fun _ h => h.elim) (fun _ h => h) (fun _ _ h => h) (by have := HLEN.out; first | omega | (simp only [List.length_cons, List.length_nil] <;> omega) | (simp <;> omega)) (by have := HLEN.out; first | omega | (simp only [List.length_cons, List.length_nil] <;> omega) | (simp <;> omega)) (by have := HB1.out.size; simp <;> omega) ?_); intro v3 w3 hown3 hg3 hat3; obtain ⟨A3, n3, c3, rfl, -, k31, k32⟩ := hown3.form; have HB3 := Lib.hid (below_own (HB1.out.alloc HB1.out.size _) (HO1.out.alloc _) hg3 (HB1.out.alloc HB1.out.size _).size); have HOWN3 := Lib.hid hown3; clear hown3 hg3 hat3)
          go_roundg (n - (j + 1))
          case measure => omega
          case rel => exact ⟨j + 1, _, _, _, by omega, rfl, by go_num, rfl, k31, k32, Lib.hid (by rw [HPT.out]; simpa using HOWN3.out), HB3⟩
      · obtain rfl : j = n := by omega
        have HO2 : Hid (Own Rep.str 9 wr W0.heap.size nob (.slice A1 n1 c1) (LF ++ Opts.partsL ps)) := Lib.hid (by have := HO1.out; rwa [List.take_of_length_le (by have := hn.out; omega)] at this)
        clear HO1
        have HO1 := HO2
        clear HO2
        have HLENq : Hid ((LF ++ Opts.partsL ps).length ≤ 4 + 2 * j) := Lib.hid (by have := HLENp.out; rwa [List.take_of_length_le (by have := hn.out; omega)] at this)
        rename Hid (LF.length ≤ _) => HLF4
        have HLEN := HLENq
        clear HLENp HLENq hjn hj
        go_wp2_with (at_builtin; go_loud (refine wpList_append_Own _ rfl (.tmp 68) (.tmp 69) 22 rfl Rep.str W0.heap.size 9 16 stStr nob (.slice A1 n1 c1) _ rfl (HO1.out.alloc _) (under (wr.heap.size + 1)) _ _ [⟨#[45, 45]⟩] rfl (str1 _ _ _ _ (by decide) (by first | rfl | omega | simp) _ (by first | omega | simp)) nob (fun _ h => h.elim) (fun _ h => h) (fun _ _ h => h) (by have := HLEN.out; first | omega | (simp only [List.length_cons, List.length_nil] <;> omega) | (simp <;> omega)) (by have := HLEN.out; first | omega | (simp only [List.length_cons, List.length_nil] <;> omega) | (simp <;> omega)) (by have := HB1.out.size; simp <;> omega) ?_); intro v3 w3 hown3 hg3 hat3; obtain ⟨A3, n3, c3, rfl, -, k31, k32⟩ := hown3.form; have HB3 := Lib.hid (below_own (HB1.out.alloc HB1.out.size _) (HO1.out.alloc _) hg3 (HB1.out.alloc HB1.out.size _).size); have HOWN3 := Lib.hid hown3; clear hown3 hg3 hat3)
        obtain ⟨LG, hLG⟩ : ∃ LG, LG = LF ++ Opts.partsL ps ++ [⟨#[45, 45]⟩] := ⟨_, rfl⟩
        rw [← hLG] at HOWN3
        have HLG : Hid (LG.length ≤ 5 + 2 * j) := Lib.hid (by have := HLEN.out; rw [hLG, List.length_append, List.length_singleton]; omega)
        have HLGE := Lib.hid hLG
        clear hLG k0 k1 k2 k3 k4 k5
        go_loopg [3, 6] m (fun k v3 v6 wr => ∃ (i2 : Nat) (A1 : Option Addr) (n1 c1 : Nat), i2 ≤ m ∧ v3 = .slice A1 n1 c1 ∧ v6 = .int .i64 i2 ∧ k = m - i2 ∧ n1 ≤ c1 ∧ c1 ≤ 9223372036854775807 ∧ Hid (Own Rep.str 9 wr W0.heap.size nob (.slice A1 n1 c1) (LG ++ fs.take i2)) ∧ Hid (Below W0.heap.size W0 wr))
        case atStart => exact ⟨0, _, _, _, Nat.zero_le _, rfl, rfl, rfl, k31, k32, Lib.hid (by simpa using HOWN3.out), HB3⟩
        case round =>
          clear k31 k32 HOWN3 HB3 hnc1 hcm1 HO1 HB1 HLEN
          obtain ⟨i2, A1, n1, c1, hj2, rfl, rfl, rfl, hnc1, hcm1, HO1, HB1⟩ := hrel
          obtain ⟨k0, k1, k2, k3, k4, k5⟩ := oObj_cells (HOBJ.out wr HB1.out)
          have HLEN : Hid ((LG ++ fs.take i2).length ≤ 5 + 2 * j + m) := Lib.hid (by have := HLG.out; rw [List.length_append, List.length_take]; omega)
          by_cases him : i2 < m
          · have hil : i2 < fs.length := by have := hm.out; omega
            obtain ⟨g, o, rfl, -, y0, hxs⟩ := (HI2.out wr HB1.out).texts hil
            have HPT : Hid (fs.take (i2 + 1) = fs.take i2 ++ [fs[i2]]) := Lib.hid (List.take_succ_eq_append_getElem hil)
            obtain ⟨x, hx⟩ : ∃ x, x = fs[i2] := ⟨_, rfl⟩
            rw [← hx] at y0 hxs HPT
            have HXS : Hid (x.size ≤ maxLen) := Lib.hid (by simpa [maxLen] using hxs)
            clear hx hxs
            go_wp2_with (at_builtin; go_loud (refine wpList_append_Own _ rfl (.tmp 78) (.tmp 84) 22 rfl Rep.str W0.heap.size 9 16 stStr nob (.slice A1 n1 c1) _ rfl (HO1.out.alloc _) (under (wr.heap.size + 1)) _ _ [x] rfl (str1 _ _ _ _ HXS.out (by first | rfl | omega | simp) _ (by first | omega | simp)) nob (fun _ h => h.elim) (fun _ h => h) (fun _ _ h => h) (by have := HLEN.out; first | omega | (simp only [List.length_cons, List.length_nil] <;> omega) | (simp <;> omega)) (by have := HLEN.out; first | omega | (simp only [List.length_cons, List.length_nil] <;> omega) | (simp <;> omega)) (by have := HB1.out.size; simp <;> omega) ?_); intro v3 w3 hown3 hg3 hat3; obtain ⟨A3, n3, c3, rfl, -, k31, k32⟩ := hown3.form; have HB3 := Lib.hid (below_own (HB1.out.alloc HB1.out.size _) (HO1.out.alloc _) hg3 (HB1.out.alloc HB1.out.size _).size); have HOWN3 := Lib.hid hown3; clear hown3 hg3 hat3)
            go_roundg (m - (i2 + 1))
            case measure => omega
            case rel => exact ⟨i2 + 1, _, _, _, by omega, rfl, by go_num, rfl, k31, k32, Lib.hid (by rw [HPT.out, ← List.append_assoc]; exact HOWN3.out), HB3⟩
          · obtain rfl : i2 = m := by omega
            have HOF := Lib.hid (show Own Rep.str 9 wr W0.heap.size nob (.slice A1 n1 c1) (LG ++ fs) by have := HO1.out; rwa [List.take_of_length_le (by have := hm.out; omega)] at this)
            go_wp2_with fail
            go_ret
            refine ⟨_, rfl, ?_, HB0.out.trans (HB1.out.mono HB0.out.size)⟩
            have := HOF.out.base_le HB0.out.size
            rw [HLGE.out, HLF.out] at this
            unfold Opts.print
            rw [if_neg (by rw [HB.out]; simp)]
            exact this
end Go.Proofs.YtmjagjcaepbklaaDoor
