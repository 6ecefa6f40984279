/- Instructions handed in with marks behind them: the walks of galleyref00.WideInstrs and SpareInstrs. Condition: room. -/
import Derived.Test.YtfbaaccnnogajaaProg
import Derived.Test.YtfbaaccnnogajaaNew
import Derived.Test.YtfbaaccnnogajaaRowAt
import Derived.Test.YtfbaaccnnogajaaNum
namespace Go.Proofs.Ytfbaaccnnogajaa
open Go.RowKit

/-- The mark of a place (a name: the numeral stays out of the walk). -/
def mk9 (i : Nat) : Int := 9437184 + (i : Int) + 1
theorem wf_mk9 {i : Nat} (h : i ≤ 1099511627776) : (Lit.int .i64 (mk9 i)).wf = true := by simp [Lit.wf, IntKind.min, IntKind.max, IntKind.signed, IntKind.bits, mk9]; omega
theorem mk9_is {w : World} {S : Blocks} {i : Nat} (h : i ≤ 1099511627776) : Rep.instr.is w S [.int .i8 0, .int .u64 0, .int .u64 0, .int .u64 0, .int .u64 0, .int .i64 (9437184 + (i : Int) + 1), .int .i64 (-7)] ⟨0, ⟨0, 0, 0, 0⟩, mk9 i, -7⟩ :=
  Rep.instr_is.2 ⟨by simp only [icells, mk9], rfl, rfl, rfl, rfl, rfl, wf_mk9 h, rfl⟩
def marksI (n : Nat) : List Instr := (List.range 64).map fun j => ⟨0, ⟨0, 0, 0, 0⟩, mk9 (n + j), -7⟩
theorem marksI_len (n : Nat) : (marksI n).length = 64 := by simp [marksI]
theorem marksI_at (n i : Nat) (h : n ≤ i) (h' : i - n < (marksI n).length) : (marksI n)[i - n] = ⟨0, ⟨0, 0, 0, 0⟩, mk9 i, -7⟩ := by
  simp only [marksI, List.getElem_map, List.getElem_range]
  congr 2
  omega
/-- What WideInstrs leaves. -/
def WideI (w : World) (n : Nat) (l : List Instr) (e : Ending) (w' : World) : Prop :=
  ∃ g, e = .returned (.slice (some ⟨g, 0, none⟩) n (n + 64)) ∧ Own Rep.instr 64 w' w.heap.size nob (.slice (some ⟨g, 0, none⟩) (n + 64) (n + 64)) (l ++ marksI n) ∧ Below w.heap.size w w'
theorem info_instr2 : (Try.prog.info? 64).map (·.size) = some Rep.instr.n := by kernel_rfl
set_option maxRecDepth 100000 in
set_option maxHeartbeats 4000000 in
theorem wideInstrs_any (A : Option Addr) (n c : Nat) (l : List Instr) (w : World) (S : Blocks) (hn : n = l.length) (hl : SliceAt Rep.instr w S A c l) (hS : ∀ b, S b → b < w.heap.size) (hb : n ≤ 2147483647) :
    Calls Try.prog 10 #[.slice A n c] w (WideI w n l) := by
  have hmk := fun u => run_make_instrs u (n + 64) (by omega)
  rw [show ((n + 64 : Nat) : Int) = (n : Int) + 64 by omega] at hmk
  have hnc : n ≤ c := by rw [hn]; exact hl.len
  have hc := hl.max
  have HN := Lib.hid hn
  have HL := Lib.hid hl
  have HS := Lib.hid hS
  obtain ⟨L, hL⟩ : ∃ L, L = l ++ marksI n := ⟨_, rfl⟩
  have hLl : L.length = n + 64 := by rw [hL, List.length_append, marksI_len, hn]
  have HLe := Lib.hid hL
  have HLl := Lib.hid hLl
  have hown0 := Own.madeN Rep.instr 64 w (n + 64) w.heap.size icz Instr.zero icz_is (by decide) (Nat.le_refl _) (by simp only [maxLen]; omega)
  rw [show List.replicate (n + 64) Instr.zero = filling L Instr.zero 0 by rw [filling_zero, hLl]] at hown0
  have HOWN0 := Lib.hid hown0
  clear hn hl hS hL hLl hown0
  go_enter Try.func10, Try.ntmps10
  go_wp2_with fail
  go_loopg [4] (n + 64) (fun k iv wr => ∃ i : Nat, i ≤ n + 64 ∧ iv = .int .i64 i ∧ k = n + 64 - i ∧ Own Rep.instr 64 wr w.heap.size nob (.slice (some ⟨w.heap.size, 0, none⟩) (n + 64) (n + 64)) (filling L Instr.zero i) ∧ Below w.heap.size w wr)
  case atStart => exact ⟨0, Nat.zero_le _, rfl, rfl, HOWN0.out, (Below.refl _ _).alloc (Nat.le_refl _) _⟩
  case round =>
    obtain ⟨i, hi, rfl, rfl, hown, hbw⟩ := hrel
    by_cases hin : i < n + 64
    · have hil : i < L.length := by have := HLl.out; omega
      have hfl : (filling L Instr.zero i).length = n + 64 := by rw [filling_len _ _ (by omega)]; exact HLl.out
      have hst := filling_step L Instr.zero hil
      obtain ⟨FL, hFL⟩ : ∃ FL, FL = filling L Instr.zero i := ⟨_, rfl⟩
      rw [← hFL] at hown hst hfl
      have HST := Lib.hid hst
      have HFL := Lib.hid hfl
      have HOWN := Lib.hid hown
      have HBW := Lib.hid hbw
      have hsz := hbw.size
      have hii : i ≤ 9223372036854775807 := by omega
      clear hst hfl hFL hown hbw
      by_cases hin2 : i < n
      · have hil2 : i < l.length := by have := HN.out; omega
        obtain ⟨g, o, rfl, hSg, hcs, hok⟩ := instr_at HL.out (Same.of_below HBW.out HS.out) hil2
        have hLi : L[i] = l[i] := by
          have := HLe.out; subst this
          rw [List.getElem_append_left hil2]
        obtain ⟨x, hx⟩ : ∃ x, x = l[i] := ⟨_, rfl⟩
        rw [← hx] at hcs hok hLi
        have HLI := Lib.hid hLi
        obtain ⟨op, ⟨c0, c1, c2, c3⟩, X, Y⟩ := x
        simp only [icells] at hcs
        have HOK := Lib.hid hok
        have k0 := hcs 0 _ rfl
        have k1 := hcs 1 _ rfl
        have k2 := hcs 2 _ rfl
        have k3 := hcs 3 _ rfl
        have k4 := hcs 4 _ rfl
        have k5 := hcs 5 _ rfl
        have k6 := hcs 6 _ rfl
        simp only [Nat.add_zero] at k0 k1 k2 k3 k4 k5 k6
        clear hx hcs hok hLi
        go_wp2_with (refine wpList_store_Own rfl 64 (.tmp 25) (.tmp 24) rfl HOWN.out i (by have := HFL.out; omega) _ rfl (by simp [Rep.instr, Rep.pair, Rep.class_, Rep.int]) _ rfl _ (Rep.instr_is.2 ⟨rfl, HOK.out⟩) info_instr2 ?_; intro w2 hown2 hg2; have HOWN2 := Lib.hid hown2; have HG2 := Lib.hid hg2; clear hown2 hg2)
        go_roundg (n + 64 - (i + 1))
        case measure => omega
        case rel =>
          refine ⟨i + 1, by omega, by go_num, rfl, by rw [← HST.out, HLI.out]; exact HOWN2.out, HBW.out.grown HG2.out hsz fun b hb => by simp only [Option.some.injEq] at hb; omega⟩
      · have hLi : L[i] = ⟨0, ⟨0, 0, 0, 0⟩, mk9 i, -7⟩ := by
          have := HLe.out; subst this
          have := HN.out
          rw [List.getElem_append_right (by omega)]
          simp only [← this]
          exact marksI_at n i (by omega) _
        have HLI := Lib.hid hLi
        have hd2 : n ≤ i := by omega
        clear hLi hin2
        go_wp2_with fail
        refine (num9 i _ (by omega)).mono ?_
        rintro e w' ⟨rfl, rfl⟩
        go_wp2_with (refine wpList_store_Own rfl 64 (.tmp 31) (.tmp 30) rfl HOWN.out i (by have := HFL.out; omega) _ rfl (by simp [Rep.instr, Rep.pair, Rep.class_, Rep.int]) _ rfl _ (mk9_is (by omega)) info_instr2 ?_; intro w2 hown2 hg2; have HOWN2 := Lib.hid hown2; have HG2 := Lib.hid hg2; clear hown2 hg2)
        go_roundg (n + 64 - (i + 1))
        case measure => omega
        case rel =>
          refine ⟨i + 1, by omega, by go_num, rfl, by rw [← HST.out, HLI.out]; exact HOWN2.out, HBW.out.grown HG2.out hsz fun b hb => by simp only [Option.some.injEq] at hb; omega⟩
    · obtain rfl : i = n + 64 := by omega
      have hown' : Own Rep.instr 64 wr w.heap.size nob (.slice (some ⟨w.heap.size, 0, none⟩) (n + 64) (n + 64)) (l ++ marksI n) := by
        have h := HLl.out
        rw [show filling L Instr.zero (n + 64) = L by rw [← h, filling_all], HLe.out] at hown
        exact hown
      have HOWN := Lib.hid hown'
      have HBW := Lib.hid hbw
      clear hown hown' hbw hin
      go_wp2_with fail
      go_ret
      exact ⟨_, rfl, HOWN.out, HBW.out⟩
set_option maxRecDepth 100000 in
set_option maxHeartbeats 4000000 in
theorem spareInstrs_any (g n base : Nat) (l : List Instr) (w : World) (hn : n = l.length) (hown : Own Rep.instr 64 w base nob (.slice (some ⟨g, 0, none⟩) (n + 64) (n + 64)) (l ++ marksI n)) (hb : n ≤ 2147483647) :
    Calls Try.prog 14 #[.slice (some ⟨g, 0, none⟩) n (n + 64)] w fun e w' => e = .returned (.bool true) ∧ ∃ q, w' = w.drewN q := by
  have hLl : (l ++ marksI n).length = n + 64 := by rw [List.length_append, marksI_len, hn]
  have HN := Lib.hid hn
  have HOWN := Lib.hid hown
  have HLl := Lib.hid hLl
  clear hn hown hLl
  go_enter Try.func14, Try.ntmps14
  go_wp2_with fail
  go_loopg [4] 64 (fun k iv wr => ∃ i nd : Nat, n ≤ i ∧ i ≤ n + 64 ∧ iv = .int .i64 i ∧ k = n + 64 - i ∧ wr = w.drewN nd)
  case atStart => exact ⟨n, 0, Nat.le_refl _, by omega, rfl, by omega, rfl⟩
  case round =>
    obtain ⟨i, nd, hi0, hi, rfl, rfl, rfl⟩ := hrel
    by_cases hin : i < n + 64
    · have hil : i < (l ++ marksI n).length := by have := HLl.out; omega
      obtain ⟨cs, hcs, hr⟩ := HOWN.out.cells hil
      have hLi : (l ++ marksI n)[i] = ⟨0, ⟨0, 0, 0, 0⟩, mk9 i, -7⟩ := by
        have := HN.out
        rw [List.getElem_append_right (by omega)]
        simp only [← this]
        exact marksI_at n i (by omega) _
      rw [hLi] at hr
      obtain ⟨rfl, -⟩ := Rep.instr_is.1 hr
      simp only [icells] at hcs
      rw [show i * Rep.instr.n = i * 7 from rfl] at hcs
      have k0 := hcs 0 _ rfl
      have k1 := hcs 1 _ rfl
      have k2 := hcs 2 _ rfl
      have k3 := hcs 3 _ rfl
      have k4 := hcs 4 _ rfl
      have k5 := hcs 5 _ rfl
      have k6 := hcs 6 _ rfl
      simp only [Nat.add_zero] at k0 k1 k2 k3 k4 k5 k6
      have heq := run_eql_instrB ⟨0, ⟨0, 0, 0, 0⟩, mk9 i, -7⟩ ⟨0, ⟨0, 0, 0, 0⟩, mk9 i, -7⟩
      rw [(Instr.eqB_iff _ _).2 rfl] at heq
      simp only [icells, mk9] at heq k5
      clear hcs hr hLi
      obtain ⟨W, hW⟩ : ∃ W, W = w.drewN nd := ⟨_, rfl⟩
      have HW := Lib.hid hW
      have e0 : ∀ a, W.cell? a = w.cell? a := fun a => by rw [hW]; rfl
      rw [← e0] at k0 k1 k2 k3 k4 k5 k6
      rw [← hW]
      clear e0 hW
      go_wp2_with fail
      go_quiet ((go_at_call 27; exact quiet_left (num9 i _ (by omega))))
      go_wp2_with fail
      go_roundg (n + 64 - (i + 1))
      case measure => omega
      case rel => exact ⟨i + 1, nd + nq, by omega, by omega, by go_num, rfl, by rw [HW.out]; exact World.drewN_drewN _ _ _⟩
    · obtain rfl : i = n + 64 := by omega
      go_wp2_with fail
      go_ret
      exact ⟨rfl, _, rfl⟩
end Go.Proofs.Ytfbaaccnnogajaa
