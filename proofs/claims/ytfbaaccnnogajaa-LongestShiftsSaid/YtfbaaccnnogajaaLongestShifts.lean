/- The walk of the law LongestShifts. Conditions: room. -/
import Derived.Test.YtfbaaccnnogajaaProg
import Derived.Test.YtfbaaccnnogajaaLS2
import Derived.Test.YtfbaaccnnogajaaShiftsPlain
namespace Go.Proofs.Ytfbaaccnnogajaa
open Go.RowKit

theorem lightSub {m N t : Nat} (h : ¬ Heavy m N) (ht : t ≤ N) : t ≤ 400 ∧ m * ((t + 1) * (t + 1)) ≤ 1048576 := by
  obtain ⟨h1, h2⟩ := light h
  exact ⟨by omega, Nat.le_trans (Nat.mul_le_mul_left _ (Nat.mul_le_mul (by omega) (by omega))) h2⟩
theorem i8_bounds {n : Int} (h : (Lit.int .i8 n).wf = true) : -128 ≤ n ∧ n ≤ 127 := by
  simpa [Lit.wf, IntKind.min, IntKind.max, IntKind.signed, IntKind.bits] using h
set_option maxRecDepth 100000 in
set_option maxHeartbeats 1000000 in
/-- Has a machine such an instruction? -/
theorem anchored_any (A : Option Addr) (n c : Nat) (M : List Instr) (op : Int) (w : World) (S : Blocks) (hn : n = M.length) (hm : SliceAt Rep.instr w S A c M) (ho1 : -128 ≤ op) (ho2 : op ≤ 127) :
    Calls Try.prog 22 #[.slice A n c, .int .i8 op] w fun e w' => e = .returned (.bool (decide (¬ NoOp M op))) ∧ w = w' := by
  have hmax := hm.max
  have hnc : n ≤ c := by rw [hn]; exact hm.len
  obtain ⟨r, hr⟩ : ∃ r, r = decide (¬ NoOp M op) := ⟨_, rfl⟩
  rw [← hr]
  have HR := Lib.hid hr
  have HM := Lib.hid hm
  have HN := Lib.hid hn
  clear hr hm hn
  go_enter Try.func22, Try.ntmps22
  go_wp2_with fail
  go_loopg [5] n (fun k iv wr => ∃ i : Nat, i ≤ n ∧ iv = .int .i64 i ∧ k = n - i ∧ w = wr ∧ Hid (∀ j (h : j < M.length), j < i → M[j].op ≠ op))
  case atStart => exact ⟨0, Nat.zero_le _, rfl, rfl, rfl, Lib.hid fun _ _ h => absurd h (by omega)⟩
  case round =>
    obtain ⟨i, hi, rfl, rfl, hw, hall⟩ := hrel
    subst hw
    by_cases hin : i < n
    · have hil : i < M.length := by have := HN.out; omega
      obtain ⟨g, o, rfl, -, hcs, hok⟩ := instr_at HM.out (Same.refl _ _) hil
      have h0 := hcs 0 _ rfl
      rw [Nat.add_zero] at h0
      obtain ⟨hb1, hb2⟩ := i8_bounds hok.op
      have hiff : M[i].op = op → r = true := fun e => by rw [HR.out]; exact decide_eq_true fun h => h i hil e
      obtain ⟨q, hq⟩ : ∃ q, q = M[i].op := ⟨_, rfl⟩
      rw [← hq] at h0 hb1 hb2 hiff
      have HQ := Lib.hid hq
      clear hcs hok hq
      by_cases he : q = op
      · obtain rfl := hiff he
        have he' : (q == op) = true := by rw [beq_iff_eq]; exact he
        clear he hiff
        go_wp2_with fail
        go_ret
        exact ⟨rfl, rfl⟩
      · have he' : (q == op) = false := by rw [beq_eq_false_iff_ne]; exact he
        have HE := Lib.hid he
        clear he hiff
        go_wp2_with fail
        go_roundg (n - (i + 1))
        case measure => omega
        case rel =>
          refine ⟨i + 1, by omega, by go_num, rfl, rfl, Lib.hid fun j hj hji => ?_⟩
          rcases Nat.lt_or_ge j i with h | h
          · exact hall.out j hj h
          · obtain rfl : j = i := by omega
            rw [← HQ.out]; exact HE.out
    · obtain rfl : r = false := by
        rw [HR.out]
        exact decide_eq_false fun h => h fun j hj => hall.out j hj (by have := HN.out; omega)
      go_wp2_with fail
      go_ret
      exact ⟨rfl, rfl⟩

/-- A search, and the ends of a text that were put by. -/
def Part (w wz : World) (B gs : Nat) (M : List Instr) (gb n c : Nat) (text : List UInt8) : Prop :=
  ∃ (F : Blocks) (st : Nat) (E : List Bool), LS w wz B gs M F st E ∧ Own Rep.bool 4 wz w.heap.size nob (.slice (some ⟨gb, 0, none⟩) n c) (endsAt M text 0) ∧ ¬ F gb
theorem Part.far {w wz w' : World} {B gs : Nat} {M : List Instr} {gb n c : Nat} {text : List UInt8} (h : Part w wz B gs M gb n c text) (hb : Below wz.heap.size wz w') : Part w w' B gs M gb n c text := by
  obtain ⟨F, st, E, h1, h2, h3⟩ := h
  exact ⟨F, st, E, h1.far hb, h2.far hb, h3⟩
/-- Ends of a longer text held against those that were put by. -/
theorem Part.hold {w w7 : World} {B gs : Nat} {M : List Instr} {gb nt cbs : Nat} {text : List UInt8} (hp : Part w w7 B gs M gb (nt + 1) cbs text) {A : Option Addr} {n c : Nat} {S : Blocks} (E : List Bool) (hs : SliceAt Rep.bool w7 S A c E) (hn : E.length = n) (he : E = endsAt M text 0) :
    Calls Try.prog 23 #[.slice A n c, .slice (some ⟨gb, 0, none⟩) (nt + 1) cbs] w7 fun e w' => e = .returned (.bool true) ∧ Hid (Part w w' B gs M gb (nt + 1) cbs text) := by
  obtain ⟨F, st, E', h1, h2, h3⟩ := hp
  obtain ⟨Al, cl, hvl, hsl⟩ := h2.slice
  simp only [Value.slice.injEq] at hvl
  obtain ⟨rfl, hll, rfl⟩ := hvl
  have heq := eqBools A (some ⟨gb, 0, none⟩) c cbs E (endsAt M text 0) w7 _ _ hs hsl
  rw [hn, ← hll, decide_eq_true he] at heq
  refine heq.mono ?_
  rintro e w' ⟨rfl, nd, rfl⟩
  exact ⟨rfl, Lib.hid (Part.far ⟨F, st, E', h1, h2, h3⟩ ⟨rfl, rfl, rfl, Nat.le_refl _, fun _ _ => rfl⟩)⟩
section
variable (A T1 T2 T3 : Option Addr) (nm cm na ca nt ct nb cb : Nat) (M : List Instr) (ahead text behind : List UInt8) (w : World)
set_option maxRecDepth 100000 in
set_option maxHeartbeats 1000000 in
theorem longestShifts_1 (ha : na ≤ 140737488351232) (ht : nt ≤ 140737488351232) (hb : nb ≤ 140737488351232) (h : 2147483647 < nm ∨ 2147483647 < na + nt + nb) : Calls Try.prog 5 #[.agg #[.slice A nm cm, .slice T1 na ca, .slice T2 nt ct, .slice T3 nb cb]] w fun e w' => e = .returned (.bool true) ∧ Below w.heap.size w w' := by
  by_cases h1 : 2147483647 < nm
  · clear h
    go_enter Try.func5, Try.ntmps5
    go_wp2_with fail
    refine (long_yes _ _ h1).mono ?_
    rintro e w' ⟨rfl, rfl⟩
    go_wp2_with fail
    go_ret
    exact ⟨rfl, (Below.refl _ _).alloc (Nat.le_refl _) _⟩
  · have hl := fun W => long_yes (na + nt + nb) W (by omega)
    rw [show ((na + nt + nb : Nat) : Int) = (na : Int) + nt + nb by omega] at hl
    have HL := Lib.hid hl
    have h1' : nm ≤ 2147483647 := by omega
    clear h h1 hl
    go_enter Try.func5, Try.ntmps5
    go_wp2_with fail
    refine (long_no _ _ h1').mono ?_
    rintro e w' ⟨rfl, rfl⟩
    go_wp2_with fail
    refine (HL.out _).mono ?_
    rintro e w' ⟨rfl, rfl⟩
    go_wp2_with fail
    go_ret
    exact ⟨rfl, (Below.refl _ _).alloc (Nat.le_refl _) _⟩
variable (h1 : nm ≤ 2147483647) (h2 : na + nt + nb ≤ 2147483647)
include h1 h2
set_option maxRecDepth 100000 in
set_option maxHeartbeats 1000000 in
theorem longestShifts_2 (hv : Heavy nm (na + nt + nb)) : Calls Try.prog 5 #[.agg #[.slice A nm cm, .slice T1 na ca, .slice T2 nt ct, .slice T3 nb cb]] w fun e w' => e = .returned (.bool true) ∧ Below w.heap.size w w' := by
  have hl := fun W => long_no (na + nt + nb) W h2
  have hh := fun W => heavy_yes nm (na + nt + nb) W h2 hv
  rw [show ((na + nt + nb : Nat) : Int) = (na : Int) + nt + nb by omega] at hl hh
  have HL := Lib.hid hl
  have HH := Lib.hid hh
  clear hl hh hv
  go_enter Try.func5, Try.ntmps5
  go_wp2_with fail
  refine (long_no _ _ h1).mono ?_
  rintro e w' ⟨rfl, rfl⟩
  go_wp2_with fail
  refine (HL.out _).mono ?_
  rintro e w' ⟨rfl, rfl⟩
  go_wp2_with fail
  refine (HH.out _).mono ?_
  rintro e w' ⟨rfl, rfl⟩
  go_wp2_with fail
  refine (works_any _).mono ?_
  rintro e w' ⟨rfl, hb⟩
  have hb0 : Below w.heap.size w (w.alloc (.cells #[.slice A nm cm, .slice T1 na ca, .slice T2 nt ct, .slice T3 nb cb] 53)) := (Below.refl _ _).alloc (Nat.le_refl _) _
  have HB := Lib.hid (hb0.trans (hb.mono hb0.size))
  clear hb hb0
  go_wp2_with fail
  go_ret
  exact ⟨rfl, HB.out⟩
variable (hv : Hid (¬ Heavy nm (na + nt + nb))) (hnm : Hid (nm = M.length)) (hm : Hid (SliceAt Rep.instr w (under w.heap.size) A cm M)) (hna : Hid (na = ahead.length)) (h3 : Hid (SliceAt Rep.byte w (under w.heap.size) T1 ca ahead)) (hnt : Hid (nt = text.length)) (h4 : Hid (SliceAt Rep.byte w (under w.heap.size) T2 ct text)) (hnb : Hid (nb = behind.length)) (h5 : Hid (SliceAt Rep.byte w (under w.heap.size) T3 cb behind))
include hv hnm hm hna h3 hnt h4 hnb h5
set_option maxRecDepth 100000 in
set_option maxHeartbeats 8000000 in
theorem longestShifts_3 : Calls Try.prog 5 #[.agg #[.slice A nm cm, .slice T1 na ca, .slice T2 nt ct, .slice T3 nb cb]] w fun e w' => e = .returned (.bool true) ∧ Below w.heap.size w w' := by
  have hl := fun W => long_no (na + nt + nb) W h2
  have hh := fun W => heavy_no nm (na + nt + nb) W h2 hv.out
  rw [show ((na + nt + nb : Nat) : Int) = (na : Int) + nt + nb by omega] at hl hh
  have HL := Lib.hid hl
  have HH := Lib.hid hh
  have hb0 : Below w.heap.size w (w.alloc (.cells #[.slice A nm cm, .slice T1 na ca, .slice T2 nt ct, .slice T3 nb cb] 53)) := (Below.refl _ _).alloc (Nat.le_refl _) _
  have HB0 := Lib.hid hb0
  have HM0 := Lib.hid (hm.out.keep (fun _ h => h) (Same.of_below hb0 (fun _ h => h)))
  clear hl hh hb0
  go_enter Try.func5, Try.ntmps5
  go_wp2_with fail
  refine (long_no _ _ h1).mono ?_
  rintro e w' ⟨rfl, rfl⟩
  go_wp2_with fail
  refine (HL.out _).mono ?_
  rintro e w' ⟨rfl, rfl⟩
  go_wp2_with fail
  refine (HH.out _).mono ?_
  rintro e w' ⟨rfl, rfl⟩
  go_wp2_with fail
  by_cases hMs : MShaped M
  · have HMS := Lib.hid hMs
    clear hMs
    refine (copyInstrs' A nm cm M _ _ hnm.out HM0.out h1).mono ?_
    rintro e w1 ⟨A1, c1, rfl, hb1, HN, -⟩
    go_wp2_with fail
    refine (HN.out HMS.out).mono ?_
    rintro e w2 ⟨gs, F, rfl, hls⟩
    have hls2 := hls.up HB0.out
    have HLS := Lib.hid hls2
    have HT2 := Lib.hid (h4.out.keep (fun _ h => h) (Same.of_below hls2.b (fun _ h => h)))
    have hnt2 : nt ≤ 2147483647 := by omega
    have hl4 := lightSub hv.out (t := text.length) (by have := hnt.out; omega)
    rw [hnm.out] at hl4
    obtain ⟨hl5, hl6⟩ := hl4
    have HL6 := Lib.hid hl6
    clear hb1 hls hls2 hl6
    go_wp2_with fail
    refine (copyBytes' T2 nt ct text w2 _ hnt.out HT2.out hnt2).mono ?_
    rintro e w3 ⟨A3, c3, rfl, HO3, HB3⟩
    go_wp2_with fail
    refine (HLS.out.endsO HMS.out HB3.out HO3.out hnt.out hl5 HL6.out 0 (Nat.zero_le _)).mono ?_
    rintro e w4 ⟨gb, cbs, F4, rfl, HE4, HLS4, -, -, HNG4, hgb1, hgb2⟩
    go_wp2_with fail
    have hm4 := hm.out.keep (fun _ h => h) (Same.of_below HLS4.out.b (fun _ h => h))
    have HP4 : Hid (Part w w4 w1.heap.size gs M gb (nt + 1) cbs text) := Lib.hid ⟨F4, _, _, HLS4.out, HE4.out.base HLS.out.b.size, HNG4.out⟩
    by_cases hn2 : NoOp M 2
    · have han := anchored_any A nm cm M 2 w4 _ hnm.out hm4 (by omega) (by omega)
      rw [decide_eq_false (fun h => h hn2)] at han
      have HN2 := Lib.hid hn2
      have HAN := Lib.hid han
      clear hn2 han hm4
      refine HAN.out.mono ?_
      rintro e w' ⟨rfl, rfl⟩
      have hna2 : na ≤ 2147483647 := by omega
      have H34 := Lib.hid (h3.out.keep (fun _ h => h) (Same.of_below HLS4.out.b (fun _ h => h)))
      go_wp2_with fail
      refine (copyBytes' T1 na ca ahead w4 _ hna.out H34.out hna2).mono ?_
      rintro e w5 ⟨A5, c5, rfl, HO5, HB5⟩
      have HT5 := Lib.hid (h4.out.keep (fun _ h => h) (Same.of_below (HLS4.out.far HB5.out).b (fun _ h => h)))
      have hz5 := HB5.out.size
      have hal : ahead.length ≤ 2147483647 := by have := hna.out; omega
      go_wp2_with (at_builtin; refine wpList_append_bytes _ rfl (.tmp 76) (.tmp 77) 23 rfl w4.heap.size 5 stBytes _ ahead rfl HO5.out _ T2 nt ct text rfl HT5.out hnt.out.symm (by omega) hz5 ?_; intro v6 w6 hown6 hg6 hat6; have hb6 : Below w4.heap.size w4 w6 := below_own HB5.out HO5.out hg6 hz5; obtain ⟨A6, n6, c6, rfl, HN6, hn6a, hn6b⟩ := hown6.form; have HO6 := Lib.hid hown6; have HB6 := Lib.hid hb6; clear hown6 hg6 hat6 hb6)
      have hsum : (ahead ++ text).length = na + nt := by rw [List.length_append, hna.out, hnt.out]
      have hl7 := lightSub hv.out (t := (ahead ++ text).length) (by omega)
      rw [hnm.out] at hl7
      have hn6c : n6 = na + nt := by rw [HN6.out]; exact hsum
      have hends := HLS4.out.endsO HMS.out HB6.out HO6.out HN6.out hl7.1 hl7.2 na (by omega)
      have HENDS := Lib.hid hends
      have hn6d : na ≤ n6 + 1 := by omega
      have hn6e : n6 ≤ 2147483647 := by omega
      have HN6C := Lib.hid hn6c
      have HSUM := Lib.hid hsum
      clear hends hl7 hn6c hsum
      refine HENDS.out.mono ?_
      rintro e w7 ⟨g7, c7, F7, rfl, HE7, HLS7, HON7, HFN7, HNG7, hg71, hg72⟩
      have hp7 : Part w w7 w1.heap.size gs M gb (nt + 1) cbs text := ⟨F7, _, _, HLS7.out, (HE4.out.base HLS.out.b.size).only HON7.out (fun b hb hf => by simp [Value.ownBlock] at hb; rw [← hb] at hf; exact HNG4.out hf), fun hf => by
        rcases HFN7.out _ hf with h | h
        · exact HNG4.out h
        · omega⟩
      obtain ⟨Al, cl, hvl, hsl⟩ := HE7.out.slice
      simp only [Value.slice.injEq] at hvl
      obtain ⟨rfl, hll, rfl⟩ := hvl
      have hrun := run_slice_from w7 stBools (some ⟨g7, 0, none⟩) (n6 + 1) c7 na hn6d
      have hsh := ends_shift HN2.out ahead text
      rw [← hna.out] at hsh
      have hhold := hp7.hold ((endsAt M (ahead ++ text) na).drop na) (hsl.cutFromA (i := na) (by rw [← hll]; exact hn6d) rfl) (n := n6 + 1 - na) (by rw [List.length_drop, ← hll]) hsh
      have HH7 := Lib.hid hhold
      clear hhold hsh hsl hll hp7
      go_wp2_with fail
      refine HH7.out.mono ?_
      rintro e wz ⟨rfl, HPZ⟩
      go_wp2_with fail
      obtain ⟨Fz, stz, Ez, hlz, hez, hnz⟩ := HPZ.out
      have hmz := hm.out.keep (fun _ h => h) (Same.of_below hlz.b (fun _ h => h))
      have HLZ := Lib.hid hlz
      have HEZ := Lib.hid hez
      have HNZ := Lib.hid hnz
      have hgbz : gb < wz.heap.size := (hez.block_lt (b := gb) rfl).2
      clear hlz hez hnz
      by_cases hn3 : NoOp M 3
      · have han := anchored_any A nm cm M 3 wz _ hnm.out hmz (by omega) (by omega)
        rw [decide_eq_false (fun h => h hn3)] at han
        have HN3 := Lib.hid hn3
        have HAN3 := Lib.hid han
        clear hn3 han hmz
        refine HAN3.out.mono ?_
        rintro e w' ⟨rfl, rfl⟩
        have H44 := Lib.hid (h4.out.keep (fun _ h => h) (Same.of_below HLZ.out.b (fun _ h => h)))
        go_wp2_with fail
        refine (copyBytes' T2 nt ct text wz _ hnt.out H44.out hnt2).mono ?_
        rintro e wa ⟨Aa, ca2, rfl, HOa, HBa⟩
        have HTa := Lib.hid (h5.out.keep (fun _ h => h) (Same.of_below (HLZ.out.far HBa.out).b (fun _ h => h)))
        have hza := HBa.out.size
        have htl : text.length ≤ 2147483647 := by have := hnt.out; omega
        go_wp2_with (at_builtin; refine wpList_append_bytes _ rfl (.tmp 104) (.tmp 105) 23 rfl wz.heap.size 5 stBytes _ text rfl HOa.out _ T3 nb cb behind rfl HTa.out hnb.out.symm (by omega) hza ?_; intro vb wb hownb hgb3 hatb; have hbb : Below wz.heap.size wz wb := below_own HBa.out HOa.out hgb3 hza; obtain ⟨Ab, nb8, cb8, rfl, HNb, hnb8a, hnb8b⟩ := hownb.form; have HOb := Lib.hid hownb; have HBb := Lib.hid hbb; clear hownb hgb3 hatb hbb)
        have hsum8 : (text ++ behind).length = nt + nb := by rw [List.length_append, hnt.out, hnb.out]
        have hl8 := lightSub hv.out (t := (text ++ behind).length) (by omega)
        rw [hnm.out] at hl8
        have hn8c : nb8 = nt + nb := by rw [HNb.out]; exact hsum8
        have hends := HLZ.out.endsO HMS.out HBb.out HOb.out HNb.out hl8.1 hl8.2 0 (Nat.zero_le _)
        have HENDS8 := Lib.hid hends
        have hn8d : nt ≤ nb8 := by omega
        have hn8e : nb8 ≤ 2147483647 := by omega
        clear hends hl8 hn8c hsum8
        refine HENDS8.out.mono ?_
        rintro e wc ⟨g8, c8, F8, rfl, HE8, HLS8, HON8, HFN8, HNG8, hg81, hg82⟩
        have hp8 : Part w wc w1.heap.size gs M gb (nt + 1) cbs text := ⟨F8, _, _, HLS8.out, HEZ.out.only HON8.out (fun b hb hf => by simp [Value.ownBlock] at hb; rw [← hb] at hf; exact HNZ.out hf), fun hf => by
          rcases HFN8.out _ hf with h | h
          · exact HNZ.out h
          · omega⟩
        obtain ⟨Al, cl, hvl, hsl⟩ := HE8.out.slice
        simp only [Value.slice.injEq] at hvl
        obtain ⟨rfl, hll, rfl⟩ := hvl
        have hc8 : nb8 + 1 ≤ c8 := by rw [hll]; exact hsl.len
        have hc9 := hsl.max
        have hsh := ends_behind HN3.out text behind
        rw [← hnt.out] at hsh
        have hhold := hp8.hold ((endsAt M (text ++ behind) 0).take (nt + 1)) (hsl.cutTo (j := nt + 1) (by rw [← hll]; omega)) (n := nt + 1) (by rw [List.length_take, ← hll]; omega) hsh
        have HH8 := Lib.hid hhold
        clear hhold hsh hsl hll hp8
        go_wp2_with fail
        refine HH8.out.mono ?_
        rintro e wd ⟨rfl, HPD⟩
        go_wp2_with fail
        refine (works_any _).mono ?_
        rintro e w' ⟨rfl, hb⟩
        have HB := Lib.hid hb
        clear hb
        go_wp2_with fail
        go_ret
        obtain ⟨Fd, std, Ed, hld, -, -⟩ := HPD.out
        exact ⟨rfl, hld.b.trans (HB.out.mono hld.b.size)⟩
      · have han := anchored_any A nm cm M 3 wz _ hnm.out hmz (by omega) (by omega)
        rw [decide_eq_true hn3] at han
        have HAN3 := Lib.hid han
        clear hn3 han hmz
        refine HAN3.out.mono ?_
        rintro e w' ⟨rfl, rfl⟩
        go_wp2_with fail
        refine (works_any _).mono ?_
        rintro e w' ⟨rfl, hb⟩
        have HB := Lib.hid hb
        clear hb
        go_wp2_with fail
        go_ret
        exact ⟨rfl, HLZ.out.b.trans (HB.out.mono HLZ.out.b.size)⟩
    · have han := anchored_any A nm cm M 2 w4 _ hnm.out hm4 (by omega) (by omega)
      rw [decide_eq_true hn2] at han
      have HAN : Hid (Calls Try.prog 22 #[.slice A nm cm, .int .i8 2] w4 fun e w' => e = .returned (.bool true) ∧ Hid (Part w w' w1.heap.size gs M gb (nt + 1) cbs text)) := Lib.hid (han.mono fun _ _ ⟨a, b⟩ => ⟨a, by rw [← b]; exact HP4⟩)
      clear hn2 han hm4
      refine HAN.out.mono ?_
      rintro e wz ⟨rfl, HPZ⟩
      go_wp2_with fail
      obtain ⟨Fz, stz, Ez, hlz, hez, hnz⟩ := HPZ.out
      have hmz := hm.out.keep (fun _ h => h) (Same.of_below hlz.b (fun _ h => h))
      have HLZ := Lib.hid hlz
      have HEZ := Lib.hid hez
      have HNZ := Lib.hid hnz
      have hgbz : gb < wz.heap.size := (hez.block_lt (b := gb) rfl).2
      clear hlz hez hnz
      by_cases hn3 : NoOp M 3
      · have han := anchored_any A nm cm M 3 wz _ hnm.out hmz (by omega) (by omega)
        rw [decide_eq_false (fun h => h hn3)] at han
        have HN3 := Lib.hid hn3
        have HAN3 := Lib.hid han
        clear hn3 han hmz
        refine HAN3.out.mono ?_
        rintro e w' ⟨rfl, rfl⟩
        have H44 := Lib.hid (h4.out.keep (fun _ h => h) (Same.of_below HLZ.out.b (fun _ h => h)))
        go_wp2_with fail
        refine (copyBytes' T2 nt ct text wz _ hnt.out H44.out hnt2).mono ?_
        rintro e wa ⟨Aa, ca2, rfl, HOa, HBa⟩
        have HTa := Lib.hid (h5.out.keep (fun _ h => h) (Same.of_below (HLZ.out.far HBa.out).b (fun _ h => h)))
        have hza := HBa.out.size
        have htl : text.length ≤ 2147483647 := by have := hnt.out; omega
        go_wp2_with (at_builtin; refine wpList_append_bytes _ rfl (.tmp 104) (.tmp 105) 23 rfl wz.heap.size 5 stBytes _ text rfl HOa.out _ T3 nb cb behind rfl HTa.out hnb.out.symm (by omega) hza ?_; intro vb wb hownb hgb3 hatb; have hbb : Below wz.heap.size wz wb := below_own HBa.out HOa.out hgb3 hza; obtain ⟨Ab, nb8, cb8, rfl, HNb, hnb8a, hnb8b⟩ := hownb.form; have HOb := Lib.hid hownb; have HBb := Lib.hid hbb; clear hownb hgb3 hatb hbb)
        have hsum8 : (text ++ behind).length = nt + nb := by rw [List.length_append, hnt.out, hnb.out]
        have hl8 := lightSub hv.out (t := (text ++ behind).length) (by omega)
        rw [hnm.out] at hl8
        have hn8c : nb8 = nt + nb := by rw [HNb.out]; exact hsum8
        have hends := HLZ.out.endsO HMS.out HBb.out HOb.out HNb.out hl8.1 hl8.2 0 (Nat.zero_le _)
        have HENDS8 := Lib.hid hends
        have hn8d : nt ≤ nb8 := by omega
        have hn8e : nb8 ≤ 2147483647 := by omega
        clear hends hl8 hn8c hsum8
        refine HENDS8.out.mono ?_
        rintro e wc ⟨g8, c8, F8, rfl, HE8, HLS8, HON8, HFN8, HNG8, hg81, hg82⟩
        have hp8 : Part w wc w1.heap.size gs M gb (nt + 1) cbs text := ⟨F8, _, _, HLS8.out, HEZ.out.only HON8.out (fun b hb hf => by simp [Value.ownBlock] at hb; rw [← hb] at hf; exact HNZ.out hf), fun hf => by
          rcases HFN8.out _ hf with h | h
          · exact HNZ.out h
          · omega⟩
        obtain ⟨Al, cl, hvl, hsl⟩ := HE8.out.slice
        simp only [Value.slice.injEq] at hvl
        obtain ⟨rfl, hll, rfl⟩ := hvl
        have hc8 : nb8 + 1 ≤ c8 := by rw [hll]; exact hsl.len
        have hc9 := hsl.max
        have hsh := ends_behind HN3.out text behind
        rw [← hnt.out] at hsh
        have hhold := hp8.hold ((endsAt M (text ++ behind) 0).take (nt + 1)) (hsl.cutTo (j := nt + 1) (by rw [← hll]; omega)) (n := nt + 1) (by rw [List.length_take, ← hll]; omega) hsh
        have HH8 := Lib.hid hhold
        clear hhold hsh hsl hll hp8
        go_wp2_with fail
        refine HH8.out.mono ?_
        rintro e wd ⟨rfl, HPD⟩
        go_wp2_with fail
        refine (works_any _).mono ?_
        rintro e w' ⟨rfl, hb⟩
        have HB := Lib.hid hb
        clear hb
        go_wp2_with fail
        go_ret
        obtain ⟨Fd, std, Ed, hld, -, -⟩ := HPD.out
        exact ⟨rfl, hld.b.trans (HB.out.mono hld.b.size)⟩
      · have han := anchored_any A nm cm M 3 wz _ hnm.out hmz (by omega) (by omega)
        rw [decide_eq_true hn3] at han
        have HAN3 := Lib.hid han
        clear hn3 han hmz
        refine HAN3.out.mono ?_
        rintro e w' ⟨rfl, rfl⟩
        go_wp2_with fail
        refine (works_any _).mono ?_
        rintro e w' ⟨rfl, hb⟩
        have HB := Lib.hid hb
        clear hb
        go_wp2_with fail
        go_ret
        exact ⟨rfl, HLZ.out.b.trans (HB.out.mono HLZ.out.b.size)⟩
  · have HMS := Lib.hid hMs
    clear hMs
    refine (copyInstrs' A nm cm M _ _ hnm.out HM0.out h1).mono ?_
    rintro e w1 ⟨A1, c1, rfl, -, -, HN⟩
    go_wp2_with fail
    refine (HN.out HMS.out).mono ?_
    rintro e w2 ⟨rfl, hb2⟩
    have HB2 := Lib.hid (HB0.out.trans (hb2.mono HB0.out.size))
    clear hb2
    go_wp2_with fail
    refine (works_any _).mono ?_
    rintro e w' ⟨rfl, hb⟩
    have HB := Lib.hid (HB2.out.trans (hb.mono HB2.out.size))
    clear hb
    go_wp2_with fail
    go_ret
    exact ⟨rfl, HB.out⟩
end
end Go.Proofs.Ytfbaaccnnogajaa
