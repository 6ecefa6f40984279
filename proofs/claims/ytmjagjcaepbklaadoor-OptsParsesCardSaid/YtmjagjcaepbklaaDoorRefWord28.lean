/- The document's reading of option words: the walks of galleyref28's is, Size, letter. Condition: the tables of UTF-8. -/
import Derived.Test.YtmjagjcaepbklaaDoorOptsParse
import Derived.Test.YtmjagjcaepbklaaDoorOptsBackPlain
import Derived.Test.YtmjagjcaepbklaaDoorWideOptions
import Derived.Laws.RangeAny
namespace Go.Proofs.YtmjagjcaepbklaaDoor
open Go.RowKit

theorem is_any (x : ByteArray) (w : World) (hx : x.size ≤ 9223372036854775807) : Calls Tryd.prog 32 #[.string x] w fun e w' => e = .returned (.bool (Opts.isOpt x)) ∧ w = w' := by
  by_cases h : 1 < x.size
  · have hd : decide ((1 : Int) < (x.size : Int)) = true := decide_eq_true (by omega)
    have h0 : 0 < x.size := by omega
    have HI : Hid ((((x[0]'(by omega)).toNat : Int) == 45) = Opts.isOpt x) := Lib.hid (by
      by_cases h2 : (x[0]'(by omega)).toNat = 45
      · rw [Opts.isOpt_yes h h2, beq_iff_eq]; omega
      · rw [Opts.isOpt_no h h2, beq_eq_false_iff_ne]; omega)
    have hb : (x[0]'(by omega)).toNat < 256 := (x[0]'(by omega)).toNat_lt
    go_enter Tryd.func32, Tryd.ntmps32
    go_wp2
    go_ret
    refine ⟨?_, rfl⟩
    rw [← HI.out]
    rfl
  · have hd : decide ((1 : Int) < (x.size : Int)) = false := decide_eq_false (by omega)
    have HI := Lib.hid (Opts.isOpt_short h)
    go_enter Tryd.func32, Tryd.ntmps32
    go_wp2
    go_ret
    exact ⟨by rw [HI.out]; rfl, rfl⟩
theorem iter_below (w : World) (s : ByteArray) (p : Nat) : Below w.heap.size w (w.iter s p) := (Below.refl _ w).alloc (Nat.le_refl _) _
set_option maxRecDepth 100000 in
theorem size_any (y : ByteArray) (w : World) (h0 : 0 < y.size) (_ : y.size ≤ 9223372036854775807) : Calls Tryd.prog 59 #[.string y] w fun e w' => e = .returned (.int .i64 (Lib.decodeGo y).2) ∧ Below w.heap.size w w' := by
  have hle := Opts.dec_le h0
  have hpos := Opts.dec_pos h0
  have hdec := Opts.dec_eq h0
  have h1 : ∀ ty, (Instr.next (.pointer (some ⟨w.heap.size, 0, none⟩)) true ty).run Tryd.prog (w.iter y 0) = .ok (.tuple #[.bool true, .int .i64 0, .int .i32 (Utf8.decode y 0).1]) (w.iter y (Lib.decodeGo y).2) := fun ty => by
    have := run_next_any (P := Tryd.prog) w y 0 ty h0
    rw [Nat.zero_add, ← hdec] at this
    rw [← hdec]
    exact this
  obtain ⟨k, hk⟩ : ∃ k, k = (Lib.decodeGo y).2 := ⟨_, rfl⟩
  rw [← hk] at h1 hle hpos
  rw [← hk]
  clear hdec hk
  by_cases h2 : k < y.size
  · have h3 : ∀ ty, (Instr.next (.pointer (some ⟨w.heap.size, 0, none⟩)) true ty).run Tryd.prog (w.iter y k) = _ := fun ty => run_next_any (P := Tryd.prog) w y k ty h2
    have hd : decide ((0 : Int) < (k : Int)) = true := decide_eq_true (by omega)
    go_enter Tryd.func59, Tryd.ntmps59
    go_wp2_with fail
    refine wp_loop_rounds 2 ?_
    rw [rounds_succ]
    go_wp2_with fail
    rw [rounds_succ]
    go_wp2_with fail
    go_ret
    exact ⟨rfl, iter_below _ _ _⟩
  · obtain rfl : k = y.size := by omega
    have h3 : ∀ ty, (Instr.next (.pointer (some ⟨w.heap.size, 0, none⟩)) true ty).run Tryd.prog (w.iter y y.size) = _ := fun ty => run_next_end (P := Tryd.prog) w y y.size ty (by omega)
    go_enter Tryd.func59, Tryd.ntmps59
    go_wp2_with fail
    refine wp_loop_rounds 2 ?_
    rw [rounds_succ]
    go_wp2_with fail
    rw [rounds_succ]
    go_wp2_with fail
    go_ret
    exact ⟨rfl, iter_below _ _ _⟩
/-! ### A letter -/
set_option maxRecDepth 100000 in
set_option maxHeartbeats 2000000 in
theorem letter_any (f : Opts.Fl) (A : Option Addr) (n c : Nat) (y : ByteArray) (h0 : 0 < y.size) (w : World) :
    Calls Tryd.prog 60 #[.agg #[.bool f.q, .bool f.e, .bool f.a, .bool f.i, .slice A n c, .slice none 0 0], .string (Opts.letter y)] w fun e w' =>
      (∀ f', Opts.step f (Lib.decodeGo y).1 = some f' → e = .returned (.tuple #[.agg #[.bool f'.q, .bool f'.e, .bool f'.a, .bool f'.i, .slice A n c, .slice none 0 0], .bool true])) ∧
      (Opts.step f (Lib.decodeGo y).1 = none → e = .returned (.tuple #[.agg #[.bool f.q, .bool f.e, .bool f.a, .bool f.i, .slice A n c, .slice none 0 0], .bool false])) ∧ Below w.heap.size w w' := by
  obtain ⟨q, e, a, i⟩ := f
  have hiff : ∀ k : UInt8, k.toNat < 128 → (Opts.letter y = ⟨#[k]⟩ ↔ (Lib.decodeGo y).1 = k.toNat) := fun k hk => ⟨Opts.of_letter h0 hk, fun h => Opts.letter_of h0 h hk⟩
  have i1 := hiff 110 (by decide)
  have i2 := hiff 69 (by decide)
  have i3 := hiff 115 (by decide)
  have i4 := hiff 105 (by decide)
  obtain ⟨l, hl⟩ : ∃ l, l = Opts.letter y := ⟨_, rfl⟩
  obtain ⟨d, hd⟩ : ∃ d, d = (Lib.decodeGo y).1 := ⟨_, rfl⟩
  rw [← hl, ← hd] at i1 i2 i3 i4
  rw [← hl, ← hd]
  clear hl hd hiff h0
  simp only [show (110 : UInt8).toNat = 110 from rfl, show (69 : UInt8).toNat = 69 from rfl, show (115 : UInt8).toNat = 115 from rfl, show (105 : UInt8).toNat = 105 from rfl] at i1 i2 i3 i4
  have HSTEP : ∀ v, Opts.step ⟨q, e, a, i⟩ d = v → Hid (Opts.step ⟨q, e, a, i⟩ d = v) := fun v h => Lib.hid h
  by_cases c1 : l = ⟨#[110]⟩
  · have HS : Hid (Opts.step ⟨q, e, a, i⟩ d = some ⟨true, e, a, i⟩) := Lib.hid (by rw [i1.1 c1]; rfl)
    clear i1 i2 i3 i4 HSTEP
    subst c1
    go_enter Tryd.func60, Tryd.ntmps60
    go_wp2_with fail
    refine bodyPost_ret (v := .tuple #[.agg #[.bool true, .bool e, .bool a, .bool i, .slice A n c, .slice none 0 0], .bool true]) (by simp [results, Tryd.results60, go_sem]) rfl ⟨fun f' h => ?_, fun h => ?_, ((Below.refl _ w).alloc (Nat.le_refl _) _).alloc (by simp) _⟩
    · rw [HS.out] at h; cases h; rfl
    · rw [HS.out] at h; cases h
  have d1 : (l.toList == [110]) = false := Opts.str_no c1
  have n1 : d ≠ 110 := fun h => c1 (i1.2 h)
  by_cases c2 : l = ⟨#[69]⟩
  · have HS : Hid (Opts.step ⟨q, e, a, i⟩ d = some ⟨q, true, a, i⟩) := Lib.hid (by rw [i2.1 c2]; rfl)
    clear i1 i2 i3 i4 HSTEP n1 d1 c1
    subst c2
    go_enter Tryd.func60, Tryd.ntmps60
    go_wp2_with fail
    refine bodyPost_ret (v := .tuple #[.agg #[.bool q, .bool true, .bool a, .bool i, .slice A n c, .slice none 0 0], .bool true]) (by simp [results, Tryd.results60, go_sem]) rfl ⟨fun f' h => ?_, fun h => ?_, ((Below.refl _ w).alloc (Nat.le_refl _) _).alloc (by simp) _⟩
    · rw [HS.out] at h; cases h; rfl
    · rw [HS.out] at h; cases h
  have d2 : (l.toList == [69]) = false := Opts.str_no c2
  have n2 : d ≠ 69 := fun h => c2 (i2.2 h)
  by_cases c3 : l = ⟨#[115]⟩
  · have HS : Hid (Opts.step ⟨q, e, a, i⟩ d = some ⟨q, e, true, i⟩) := Lib.hid (by rw [i3.1 c3]; rfl)
    clear i1 i2 i3 i4 HSTEP n1 d1 c1 n2 d2 c2
    subst c3
    go_enter Tryd.func60, Tryd.ntmps60
    go_wp2_with fail
    refine bodyPost_ret (v := .tuple #[.agg #[.bool q, .bool e, .bool true, .bool i, .slice A n c, .slice none 0 0], .bool true]) (by simp [results, Tryd.results60, go_sem]) rfl ⟨fun f' h => ?_, fun h => ?_, ((Below.refl _ w).alloc (Nat.le_refl _) _).alloc (by simp) _⟩
    · rw [HS.out] at h; cases h; rfl
    · rw [HS.out] at h; cases h
  have d3 : (l.toList == [115]) = false := Opts.str_no c3
  have n3 : d ≠ 115 := fun h => c3 (i3.2 h)
  by_cases c4 : l = ⟨#[105]⟩
  · have HS : Hid (Opts.step ⟨q, e, a, i⟩ d = some ⟨q, e, true, true⟩) := Lib.hid (by rw [i4.1 c4]; rfl)
    clear i1 i2 i3 i4 HSTEP n1 d1 c1 n2 d2 c2 n3 d3 c3
    subst c4
    go_enter Tryd.func60, Tryd.ntmps60
    go_wp2_with fail
    refine bodyPost_ret (v := .tuple #[.agg #[.bool q, .bool e, .bool true, .bool true, .slice A n c, .slice none 0 0], .bool true]) (by simp [results, Tryd.results60, go_sem]) rfl ⟨fun f' h => ?_, fun h => ?_, ((Below.refl _ w).alloc (Nat.le_refl _) _).alloc (by simp) _⟩
    · rw [HS.out] at h; cases h; rfl
    · rw [HS.out] at h; cases h
  have d4 : (l.toList == [105]) = false := Opts.str_no c4
  have n4 : d ≠ 105 := fun h => c4 (i4.2 h)
  have HS : Hid (Opts.step ⟨q, e, a, i⟩ d = none) := Lib.hid (by simp [Opts.step, n1, n2, n3, n4])
  clear i1 i2 i3 i4 HSTEP n1 n2 n3 n4 c1 c2 c3 c4
  go_enter Tryd.func60, Tryd.ntmps60
  go_wp2_with fail
  refine bodyPost_ret (v := .tuple #[.agg #[.bool q, .bool e, .bool a, .bool i, .slice A n c, .slice none 0 0], .bool false]) (by simp [results, Tryd.results60, go_sem]) rfl ⟨fun f' h => ?_, fun h => ?_, ((Below.refl _ w).alloc (Nat.le_refl _) _).alloc (by simp) _⟩
  · rw [HS.out] at h; cases h
  · rfl
end Go.Proofs.YtmjagjcaepbklaaDoor
