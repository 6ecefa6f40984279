/- The walk of the law LongestBoth, where both machines are well shaped and light. Conditions: room. -/
import Derived.Test.YtfbaaccnnogajaaProg
import Derived.Test.YtfbaaccnnogajaaLS2
import Derived.Test.YtfbaaccnnogajaaLongestBoth
namespace Go.Proofs.Ytfbaaccnnogajaa
open Go.RowKit

theorem LS.endsN {w0 w w1 : World} {B gs : Nat} {M : List Instr} {F : Blocks} {st : Nat} {E : List Bool} {n c : Nat} {A : Option Addr} (h : LS w0 w B gs M F st E) (hM : MShaped M) (hb : Below w.heap.size w w1) (at_ : Int) (hat : at_ < 0 ∨ n < at_) :
    Calls Try.prog 17 #[.pointer (some ⟨gs, 0, none⟩), .slice A n c, .int .i64 at_] w1 fun e w' => e = .returned (.slice none 0 0) ∧ LS w0 w' B gs M F 0 E ∧ Only F w w' := by
  have h1 := h.far hb
  refine (Go.Proofs.Ytfbaaccnnogajaa.ends_out B gs M F st E w1 A n c at_ h1.s hM.1 hat).mono ?_
  rintro e w' ⟨rfl, hs, ho⟩
  exact ⟨rfl, h1.next hs ho, (Only.of_below hb F).trans ho fun b h => .inl h⟩
theorem Own.bcells {w : World} {base g n c : Nat} {l : List Bool} (h : Own Rep.bool 4 w base nob (.slice (some ⟨g, 0, none⟩) n c) l) : n ≤ c ∧ c ≤ 9223372036854775807 ∧ ∀ t, t < l.length → w.cell? ⟨g, t, none⟩ = some (.bool (l.getD t false)) := by
  obtain ⟨_, _, _, he, hl, hc1, hc2⟩ := h.form
  simp only [Value.slice.injEq] at he
  obtain ⟨-, rfl, rfl⟩ := he
  refine ⟨by omega, hc2, fun t ht => ?_⟩
  obtain ⟨g', c', u, he, -, -, hc, -, hu, -⟩ := h.cellAt rfl (k := t) ht
  simp only [Value.slice.injEq, Option.some.injEq, Addr.mk.injEq] at he
  obtain ⟨⟨rfl, -⟩, -, -⟩ := he
  simp only [Rep.bool, List.cons.injEq, and_true] at hu
  rw [hc, hu, List.getD_eq_getElem?_getD, List.getElem?_eq_getElem ht]; rfl
theorem made7 (a b c d e f g : Value) : madeCells #[a, b, c, d, e, f, g] (1 * Rep.instr.n) = #[a, b, c, d, e, f, g] := by
  rw [show 1 * Rep.instr.n = 7 from rfl]
  apply Array.ext
  · rw [size_madeCells]; rfl
  · intro i h1 h2
    have h3 : i < 7 := by simpa using h2
    rcases (by omega : i = 0 ∨ i = 1 ∨ i = 2 ∨ i = 3 ∨ i = 4 ∨ i = 5 ∨ i = 6) with rfl | rfl | rfl | rfl | rfl | rfl | rfl <;> simp [madeCells]

section
variable (A B C : Option Addr) (na ca nb cb nt ct : Nat) (at_ : Int) (Ma Mb : List Instr) (text : List UInt8) (w : World)
variable (h1 : na + nb ≤ 2147483647) (h2 : nt ≤ 2147483647)
variable (hv : Hid (¬ Heavy (na + nb + 1) nt)) (hna : Hid (na = Ma.length)) (hnb : Hid (nb = Mb.length)) (ha : Hid (SliceAt Rep.instr w (under w.heap.size) A ca Ma)) (hb : Hid (SliceAt Rep.instr w (under w.heap.size) B cb Mb))
include h1 h2 hv hna hnb ha hb
set_option maxRecDepth 100000 in
set_option maxHeartbeats 4000000 in
theorem longestBoth_4 (HMA : Hid (MShaped Ma)) (HMB : Hid (MShaped Mb)) (h3 : na + nb ≤ 65536) (hnt : Hid (nt = text.length)) (ht : Hid (SliceAt Rep.byte w (under w.heap.size) C ct text)) (hnac : na ≤ ca) (hca : ca ≤ 9223372036854775807) (hnbc : nb ≤ cb) (hcb : cb ≤ 9223372036854775807) : Calls Try.prog 6 #[.agg #[.slice A na ca, .slice B nb cb, .slice C nt ct, .int .i64 at_]] w fun e w' => e = .returned (.bool true) ∧ Below w.heap.size w w' := by
  have hl := fun W => long_no (na + nb) W h1
  rw [show ((na + nb : Nat) : Int) = (na : Int) + nb by omega] at hl
  have hh := fun W => heavy_no (na + nb + 1) nt W h2 hv.out
  rw [show ((na + nb + 1 : Nat) : Int) = (na : Int) + nb + 1 by omega] at hh
  have HL := Lib.hid hl
  have HH := Lib.hid hh
  have HB0 : Hid (∀ o, Below w.heap.size w (w.alloc o)) := Lib.hid fun o => (Below.refl _ _).alloc (Nat.le_refl _) o
  have HA0 : Hid (∀ o, SliceAt Rep.instr (w.alloc o) (under w.heap.size) A ca Ma) := Lib.hid fun o => ha.out.keep (fun _ h => h) (Same.of_below (HB0.out o) (fun _ h => h))
  clear hl hh
  have h4 : decide ((65536 : Int) < (na : Int) + nb) = false := decide_eq_false (by omega)
  go_enter Try.func6, Try.ntmps6
  go_wp2_with fail
  refine (HL.out _).mono ?_
  rintro e w' ⟨rfl, rfl⟩
  go_wp2_with fail
  refine (long_no _ _ h2).mono ?_
  rintro e w' ⟨rfl, rfl⟩
  go_wp2_with fail
  refine (HH.out _).mono ?_
  rintro e w' ⟨rfl, rfl⟩
  go_wp2_with fail
  refine (copyInstrs' A na ca Ma _ _ hna.out (HA0.out _) (by omega)).mono ?_
  rintro e w1 ⟨A1, c1, rfl, -, HN1, -⟩
  go_wp2_with fail
  refine (HN1.out HMA.out).mono ?_
  rintro e w2 ⟨gs, Fs, rfl, hls⟩
  have HLS := Lib.hid (hls.up (HB0.out _))
  have HB2 := Lib.hid HLS.out.b
  clear hls
  have HBT := Lib.hid (hb.out.keep (fun _ h => h) (Same.of_below HB2.out (fun _ h => h)))
  go_wp2_with fail
  refine (copyInstrs' B nb cb Mb w2 _ hnb.out HBT.out (by omega)).mono ?_
  rintro e w3 ⟨A3, c3, rfl, HB3x, HN3, -⟩
  have HB3 := Lib.hid HB3x
  clear HB3x
  go_wp2_with fail
  refine (HN3.out HMB.out).mono ?_
  rintro e w4 ⟨gt, Ft, rfl, hlt⟩
  have HBT4 := Lib.hid hlt.b
  have HLT := Lib.hid (hlt.up HB2.out)
  have HB4 := Lib.hid HLT.out.b
  clear hlt
  have hs2 := HB2.out.size
  have hs4 := HB4.out.size
  go_wp2_with fail
  refine (placed_any A na ca 1 Ma _ (by omega) (by omega) hna HMA ?_ hnac hca).mono ?_
  · exact Lib.hid ((ha.out.keep (fun _ h => h) (Same.of_below (HB4.out.alloc hs4 _) (fun _ h => h))).up fun b h => Nat.lt_of_lt_of_le h (by simp; omega))
  rintro e w5 ⟨v5, rfl, hown5, hb5⟩
  obtain ⟨L5, hL5⟩ : ∃ L, L = Ma.map (Instr.moved 1) := ⟨_, rfl⟩
  rw [← hL5] at hown5
  have hl5 : L5.length ≤ 65536 := by rw [hL5, List.length_map]; have := hna.out; omega
  have hal : Own Rep.instr 64 (w4.alloc (.cells #[.int .i8 5, .int .u64 0, .int .u64 0, .int .u64 0, .int .u64 0, .int .i64 1, .int .i64 (1 + (na : Int))] 64)) w4.heap.size nob (.slice (some ⟨w4.heap.size, 0, none⟩) 1 1) [⟨5, Class.none, 1, (1 + Ma.length : Nat)⟩] := by
    have := Own.madeN Rep.instr 64 w4 1 w4.heap.size #[.int .i8 5, .int .u64 0, .int .u64 0, .int .u64 0, .int .u64 0, .int .i64 1, .int .i64 (1 + (na : Int))] ⟨5, Class.none, 1, (1 + Ma.length : Nat)⟩ (fun W => Rep.instr_is.2 ⟨by rw [hna.out]; simp [icells, Class.none], rfl, rfl, rfl, rfl, rfl, rfl, wf64 (by simp; omega) (by have := hna.out; simp; omega)⟩) (by decide) (Nat.le_refl _) (by decide)
    rw [made7] at this
    exact this
  have hal5 := hal.far hb5
  have HB5 := Lib.hid (((Below.refl _ _).alloc (Nat.le_refl _) _).trans (hb5.mono (by simp)))
  have hs5 := HB5.out.size
  obtain ⟨A5, c5, rfl, hsl5⟩ := hown5.slice
  have HAL5 := Lib.hid hal5
  have HSL5 := Lib.hid hsl5
  clear hal hal5 hown5 hb5 hsl5
  have HL5 := Lib.hid hL5
  clear hL5
  obtain ⟨I5, hI5⟩ : ∃ x : Instr, x = ⟨5, Class.none, 1, (1 + Ma.length : Nat)⟩ := ⟨_, rfl⟩
  rw [← hI5] at HAL5
  have HI5 := Lib.hid hI5
  clear hI5
  go_wp2_with (at_builtin; refine wpList_append_Own _ rfl (.tmp 93) (.tmp 95) 22 rfl Rep.instr w4.heap.size 64 56 stInstrs nob _ [I5] rfl HAL5.out _ _ _ L5 rfl HSL5.out nob (fun _ h => h.elim) (fun _ h => h) (fun _ _ h => Rep.instr_is.2 (Rep.instr_is.1 h)) (by simp; omega) (by simp; omega) hs5 ?_; intro v6 w6 hown6 hg6 hat6; have HB6 := Lib.hid (below_own HB5.out HAL5.out hg6 hs5); have HOWN6 := Lib.hid hown6; clear hown6 hg6 hat6)
  have hs6 := HB6.out.size
  have hp7 := placed_any B nb cb (1 + na) Mb w6 (by omega) (by omega) hnb HMB (Lib.hid ((hb.out.keep (fun _ h => h) (Same.of_below (HB4.out.trans (HB6.out.mono hs4)) (fun _ h => h))).up fun b h => Nat.lt_of_lt_of_le h (by omega))) hnbc hcb
  rw [show ((1 + na : Nat) : Int) = 1 + (na : Int) by omega] at hp7
  refine hp7.mono ?_
  rintro e w7 ⟨v7, rfl, hown7, hb7⟩
  obtain ⟨L7, hL7⟩ : ∃ L, L = Mb.map (Instr.moved (1 + na)) := ⟨_, rfl⟩
  rw [← hL7] at hown7
  have hl7 : L7.length ≤ 65536 := by rw [hL7, List.length_map]; have := hnb.out; omega
  have HOWN6b := Lib.hid (HOWN6.out.far hb7)
  have HB7 := Lib.hid (HB6.out.trans (hb7.mono hs6))
  have hs7 := HB7.out.size
  obtain ⟨A7, c7, rfl, hsl7⟩ := hown7.slice
  have HSL7 := Lib.hid hsl7
  have HL7 := Lib.hid hL7
  obtain ⟨L6, hL6⟩ : ∃ L, L = [I5] ++ L5 := ⟨_, rfl⟩
  rw [← hL6] at HOWN6b
  have hl6 : L6.length ≤ 65537 := by rw [hL6]; simp; omega
  have HL6 := Lib.hid hL6
  obtain ⟨Av6, nv6, cv6, rfl, -, -, -⟩ := HOWN6b.out.form
  clear hown7 hb7 hsl7 hL7 hL6 hp7
  go_wp2_with (at_builtin; refine wpList_append_Own _ rfl (.tmp 97) (.tmp 102) 22 rfl Rep.instr w4.heap.size 64 56 stInstrs nob _ L6 rfl HOWN6b.out _ _ _ L7 rfl HSL7.out nob (fun _ h => h.elim) (fun _ h => h) (fun _ _ h => Rep.instr_is.2 (Rep.instr_is.1 h)) (by omega) (by omega) hs7 ?_; intro v8 w8 hown8 hg8 hat8; have HB8 := Lib.hid (below_own HB7.out HOWN6b.out hg8 hs7); obtain ⟨A8, n8, c8, rfl, HN8, -⟩ := newOwn HB8.out hown8; clear hown8 hg8 hat8)
  have hM8 : L6 ++ L7 = bothM Ma Mb := by rw [HL6.out, HL7.out, HI5.out, HL5.out, hna.out]; rfl
  rw [hM8] at HN8
  have hsh := bothM_shaped HMA.out HMB.out (by rw [← hna.out, ← hnb.out]; exact h3)
  refine (HN8.out hsh).mono ?_
  rintro e w9 ⟨gu, Fu, rfl, hlu⟩
  have htri : Tri w w9 w1.heap.size w3.heap.size w8.heap.size gs gt gu Ma Mb (bothM Ma Mb) Fs Ft Fu 0 0 0 [] [] [] := by
    refine ⟨(HLS.out.far HBT4.out).far hlu.b, HLT.out.far hlu.b, hlu.up HB4.out, fun b h1 h2 => ?_, fun b h1 h2 => ?_, fun b h1 h2 => ?_⟩
    · have := HLS.out.lt b h1; have := (HLT.out.s.lt b h2).1; have := HB3.out.size; omega
    · have := (HLS.out.far HBT4.out).lt b h1; have := hlu.base b h2; omega
    · have := HLT.out.lt b h1; have := hlu.base b h2; omega
  have HTRI := Lib.hid htri
  clear htri hlu
  have hs9 := HTRI.out.s.b.size
  have HTX := Lib.hid (ht.out.keep (fun _ h => h) (Same.of_below HTRI.out.s.b (fun _ h => h)))
  by_cases hat : at_ < 0 ∨ (nt : Int) < at_
  · go_wp2_with fail
    refine (copyBytes' C nt ct text w9 _ hnt.out HTX.out (by omega)).mono ?_
    rintro e w10 ⟨A10, c10, rfl, HO10, HB10⟩
    go_wp2_with fail
    refine (HTRI.out.s.endsN (A := A10) (n := nt) (c := c10) HMA.out HB10.out at_ hat).mono ?_
    rintro e w11 ⟨rfl, hls11, ho11⟩
    have HTRI11 := Lib.hid (HTRI.out.stepS hls11 ho11 fun b hb => .inl hb)
    have HTX11 := Lib.hid (ht.out.keep (fun _ h => h) (Same.of_below HTRI11.out.s.b (fun _ h => h)))
    clear hls11 ho11
    go_wp2_with fail
    refine (copyBytes' C nt ct text w11 _ hnt.out HTX11.out (by omega)).mono ?_
    rintro e w12 ⟨A12, c12, rfl, HO12, HB12⟩
    go_wp2_with fail
    refine (HTRI11.out.t.endsN (A := A12) (n := nt) (c := c12) HMB.out HB12.out at_ hat).mono ?_
    rintro e w13 ⟨rfl, hls13, ho13⟩
    have HTRI13 := Lib.hid (HTRI11.out.stepT hls13 ho13 fun b hb => .inl hb)
    have HTX13 := Lib.hid (ht.out.keep (fun _ h => h) (Same.of_below HTRI13.out.s.b (fun _ h => h)))
    clear hls13 ho13
    go_wp2_with fail
    refine (copyBytes' C nt ct text w13 _ hnt.out HTX13.out (by omega)).mono ?_
    rintro e w14 ⟨A14, c14, rfl, HO14, HB14⟩
    go_wp2_with fail
    refine (HTRI13.out.u.endsN (A := A14) (n := nt) (c := c14) hsh HB14.out at_ hat).mono ?_
    rintro e w15 ⟨rfl, hls15, ho15⟩
    have HTRI15 := Lib.hid (HTRI13.out.stepU hls15 ho15 fun b hb => .inl hb)
    clear hls15 ho15
    go_wp2_with fail
    go_loopg [17] 0 (fun k iv wr => iv = .int .i64 0 ∧ k = 0 ∧ wr = w15)
    case atStart => exact ⟨rfl, rfl, rfl⟩
    case round =>
      obtain ⟨rfl, rfl, rfl⟩ := hrel
      have HB15 := Lib.hid HTRI15.out.s.b
      go_wp2_with fail
      refine (works_any _).mono ?_
      rintro e w' ⟨rfl, hb7⟩
      have HB16 := Lib.hid hb7
      clear hb7
      go_wp2_with fail
      go_ret
      exact ⟨rfl, HB15.out.trans (HB16.out.mono HB15.out.size)⟩
  · obtain ⟨p, rfl⟩ : ∃ p : Nat, at_ = p := ⟨at_.toNat, by omega⟩
    have hpt : p ≤ text.length := by have := hnt.out; omega
    obtain ⟨hq1, hq2⟩ := light hv.out
    have hl1 : text.length ≤ 400 := by have := hnt.out; omega
    have HLA : Hid (Ma.length * ((text.length + 1) * (text.length + 1)) ≤ 1048576) := Lib.hid (Nat.le_trans (Nat.mul_le_mul_right _ (by have := hna.out; omega)) (hnt.out ▸ hq2))
    have HLB : Hid (Mb.length * ((text.length + 1) * (text.length + 1)) ≤ 1048576) := Lib.hid (Nat.le_trans (Nat.mul_le_mul_right _ (by have := hnb.out; omega)) (hnt.out ▸ hq2))
    have HLC : Hid ((bothM Ma Mb).length * ((text.length + 1) * (text.length + 1)) ≤ 1048576) := Lib.hid (Nat.le_trans (Nat.mul_le_mul_right _ (by rw [bothM_len]; have := hna.out; have := hnb.out; omega)) (hnt.out ▸ hq2))
    clear hq2 hat
    go_wp2_with fail
    refine (copyBytes' C nt ct text w9 _ hnt.out HTX.out (by omega)).mono ?_
    rintro e w10 ⟨A10, c10, rfl, HO10, HB10⟩
    go_wp2_with fail
    refine (HTRI.out.s.endsO HMA.out HB10.out HO10.out hnt.out hl1 HLA.out p hpt).mono ?_
    rintro e w11 ⟨ge, ce, Fs1, rfl, HE11, HLS11, HON11, HFN11, HNG11, hge1, hge2⟩
    have HTRI11 := Lib.hid (HTRI.out.stepS HLS11.out HON11.out HFN11.out)
    have HTX11 := Lib.hid (ht.out.keep (fun _ h => h) (Same.of_below HTRI11.out.s.b (fun _ h => h)))
    go_wp2_with fail
    refine (copyBytes' C nt ct text w11 _ hnt.out HTX11.out (by omega)).mono ?_
    rintro e w12 ⟨A12, c12, rfl, HO12, HB12⟩
    go_wp2_with fail
    refine (HTRI11.out.t.endsO HMB.out HB12.out HO12.out hnt.out hl1 HLB.out p hpt).mono ?_
    rintro e w13 ⟨gf, cf, Ft1, rfl, HE13, HLS13, HON13, HFN13, HNG13, hgf1, hgf2⟩
    have HTRI13 := Lib.hid (HTRI11.out.stepT HLS13.out HON13.out HFN13.out)
    have HTX13 := Lib.hid (ht.out.keep (fun _ h => h) (Same.of_below HTRI13.out.s.b (fun _ h => h)))
    go_wp2_with fail
    refine (copyBytes' C nt ct text w13 _ hnt.out HTX13.out (by omega)).mono ?_
    rintro e w14 ⟨A14, c14, rfl, HO14, HB14⟩
    go_wp2_with fail
    refine (HTRI13.out.u.endsO hsh HB14.out HO14.out hnt.out hl1 HLC.out p hpt).mono ?_
    rintro e w15 ⟨gz, cz, Fu1, rfl, HE15, HLS15, HON15, HFN15, HNG15, hgz1, hgz2⟩
    have HTRI15 := Lib.hid (HTRI13.out.stepU HLS15.out HON15.out HFN15.out)
    have hget : ¬ Ft ge := fun h => by have := HTRI.out.t.lt ge h; omega
    have hgeu : ¬ Fu ge := fun h => by have := HTRI.out.u.lt ge h; omega
    have hgfu : ¬ Fu gf := fun h => by have := HTRI11.out.u.lt gf h; omega
    obtain ⟨cx1, cx2, hx⟩ := ((HE11.out.only HON13.out fun b hb hf => by
      simp [Value.ownBlock] at hb; rw [← hb] at hf; exact hget hf).only HON15.out fun b hb hf => by
      simp [Value.ownBlock] at hb; rw [← hb] at hf; exact hgeu hf).bcells
    obtain ⟨cy1, cy2, hy⟩ := (HE13.out.only HON15.out fun b hb hf => by
      simp [Value.ownBlock] at hb; rw [← hb] at hf; exact hgfu hf).bcells
    obtain ⟨cz1, cz2, hz⟩ := HE15.out.bcells
    have hboth := fun t => ends_both HMA.out HMB.out (by rw [← hna.out, ← hnb.out]; exact h3) text p t hpt
    rw [endsAt_len, ← hnt.out] at hx hy hz
    have HX := Lib.hid hx
    have HY := Lib.hid hy
    have HZ := Lib.hid hz
    have HBOTH := Lib.hid hboth
    have HB15 := Lib.hid HTRI15.out.s.b
    have hnt4 : nt ≤ 400 := hq1
    clear hx hy hz hboth hget hgeu hgfu hsh
    go_wp2_with fail
    go_loopg [17] (nt + 1) (fun k iv wr => ∃ i nd : Nat, i ≤ nt + 1 ∧ iv = .int .i64 i ∧ k = nt + 1 - i ∧ wr = w15.drewN nd)
    case atStart => exact ⟨0, 0, Nat.zero_le _, rfl, rfl, rfl⟩
    case round =>
      obtain ⟨i, nd, hi, rfl, rfl, hwr⟩ := hrel
      subst hwr
      by_cases hin : i < nt + 1
      · have hx : (w15.drewN nd).cell? ⟨ge, i, none⟩ = _ := HX.out i hin
        have hy : (w15.drewN nd).cell? ⟨gf, i, none⟩ = _ := HY.out i hin
        have hz : (w15.drewN nd).cell? ⟨gz, i, none⟩ = _ := HZ.out i hin
        rw [HBOTH.out i] at hz
        generalize (endsAt Ma text p).getD i false = bx at hx hz
        generalize (endsAt Mb text p).getD i false = by_ at hy hz
        obtain ⟨W, hW⟩ : ∃ W, W = w15.drewN nd := ⟨_, rfl⟩
        have HW := Lib.hid hW
        rw [← hW] at hx hy hz ⊢
        clear hW
        cases bx <;> cases by_ <;> simp only [Bool.or_false, Bool.or_true, Bool.or_self] at hz
        all_goals
          go_wp2_with fail
          go_region
          all_goals
            go_wp2_with fail
            go_roundg (nt + 1 - (i + 1))
            case measure => omega
            case rel => exact ⟨i + 1, nd + 1, by omega, by go_num, rfl, by rw [HW.out]; rfl⟩
      · obtain rfl : i = nt + 1 := by omega
        have HB15d : Hid (Below w.heap.size w (w15.drewN nd)) := Lib.hid (HB15.out.trans ⟨rfl, rfl, rfl, Nat.le_refl _, fun _ _ => rfl⟩)
        go_wp2_with fail
        refine (works_any _).mono ?_
        rintro e w' ⟨rfl, hb7⟩
        have HB16 := Lib.hid hb7
        clear hb7
        go_wp2_with fail
        go_ret
        exact ⟨rfl, HB15d.out.trans (HB16.out.mono HB15d.out.size)⟩
end
end Go.Proofs.Ytfbaaccnnogajaa
