/- Texts that lead to the claim, one behind the other: ResolveLonger: the walk. Condition: the reach; the library's variables hold what they hold. -/
import Derived.Test.YtnpideapdjomgaaDoorRA45
import Derived.Test.YtnpideapdjomgaaDoorRA49
namespace Go.Proofs.YtnpideapdjomgaaDoor
open Go.RowKit Go.ChangeShapes Go.WideShapes Go.Deep

/-- What Resolve tells: the fault and its place. -/
def codeOf (l : List Cm) : Int × Int := match Res.resolve (l.map Cm.rc) with
  | .error x => (x.1, ((l[x.2]?).map Cm.pos).getD 0)
  | .ok _ => (0, 0)
def resForm (e : Ending) (x : Int × Int) : Prop := ∃ (A1 : Option Addr) (n1 c1 : Nat) (A2 : Option Addr) (n2 c2 : Nat) (A3 : Option Addr) (n3 c3 : Nat) (qq : Bool), e = .returned (.tuple #[.agg #[.slice A1 n1 c1, .slice A2 n2 c2, .slice A3 n3 c3, .bool qq], .int .i64 x.1, .int .i64 x.2])
theorem ResAns.form {l : List Cm} {q : Bool} {w w' : World} {e : Ending} (h : ResAns l q w e w') : resForm e (codeOf l) ∧ Below w.heap.size w w' := by
  obtain ⟨hb, h⟩ := h
  refine ⟨?_, hb⟩
  unfold resForm codeOf
  cases hr : Res.resolve (l.map Cm.rc) with
  | error x =>
    rw [hr] at h
    obtain ⟨hi, rfl⟩ := h
    exact ⟨none, 0, 0, none, 0, 0, none, 0, 0, false, by simp only [List.getElem?_eq_getElem hi, Option.map_some, Option.getD_some]⟩
  | ok r =>
    rw [hr] at h
    obtain ⟨A1, c1, A3, c3, fs, rfl, -⟩ := h
    exact ⟨A1, l.length, c1, _, _, _, A3, _, c3, q, rfl⟩
theorem codeOf_longer (l k : List Cm) (h : (codeOf l).1 = 2 ∨ (codeOf l).1 = 72 ∨ (codeOf l).1 = 77) : codeOf (l ++ k) = codeOf l := by
  unfold codeOf at h ⊢
  cases hr : Res.resolve (l.map Cm.rc) with
  | error x =>
    rw [hr] at h
    obtain ⟨-, h2, h3⟩ := Res.resolve_code hr
    rw [List.map_append, h3 h (k.map Cm.rc)]
    rw [List.length_map] at h2
    simp only
    rw [List.getElem?_append_left h2]
  | ok r =>
    rw [hr] at h
    simp at h
theorem sep_old {α : Type} {r : Rep α} {e : TypeId} {w4 w5 : World} {S1 : Blocks} {v : Value} {l : List α} (h : Own r e w5 w4.heap.size S1 v l) (hb : w4.heap.size ≤ w5.heap.size) : ∀ b, S1 b ∨ b < w4.heap.size → b < w5.heap.size ∧ some b ≠ v.ownBlock := by
  obtain ⟨xs, hx, h3, _⟩ := h
  rintro b (hb1 | hb1)
  · exact h3 b hb1
  · exact ⟨by omega, fun e => by have := (hx.lt b e.symm).1; omega⟩
theorem flat_old {w4 W : World} (S1 : Blocks) : ∀ cs x, Rep.cm.is W (under w4.heap.size) cs x → Rep.cm.is W (fun b => S1 b ∨ b < w4.heap.size) cs x := fun cs x h => Rep.cm.keep h (fun b hb => .inr hb) (Same.refl _ _)
set_option maxRecDepth 100000 in
set_option maxHeartbeats 8000000 in
theorem longer_law (w : World) (A B : Option Addr) (n c m d : Nat) (l k : List Cm) (q : Bool) (hn : Hid (n = l.length)) (hm : Hid (m = k.length)) (hl : Hid (SliceAt Rep.cm w (under w.heap.size) A c l)) (hk : Hid (SliceAt Rep.cm w (under w.heap.size) B d k)) (hE : Hid (Env22 w)) (hr : Hid (∀ x ∈ l, x.reach)) (hr2 : Hid (∀ x ∈ k, x.reach)) :
    Calls Tryd.prog 4 #[.slice A n c, .slice B m d, .bool q] w fun e w' => e = .returned (.bool true) ∧ Below w.heap.size w w' := by
  have HK : Hid (∀ W, Below w.heap.size w W → SliceAt Rep.cm W (under W.heap.size) A c l ∧ SliceAt Rep.cm W (under W.heap.size) B d k ∧ Env22 W) := Lib.hid fun W hW => ⟨hl.out.keep (fun b h => Nat.lt_of_lt_of_le h hW.size) (Same.of_below hW fun b h => h), hk.out.keep (fun b h => Nat.lt_of_lt_of_le h hW.size) (Same.of_below hW fun b h => h), hE.out.below hW⟩
  have HWK := Lib.hid (works_any w hE)
  have HBE : Hid (∀ W, Below w.heap.size w W → Calls Tryd.prog 7 #[.slice A n c] W fun e w' => (∃ b : Bool, e = .returned (.bool b) ∧ (b = false → cws l ≤ 16777216)) ∧ Below w.heap.size w w') := Lib.hid fun W hW => by
    refine (beyond_any A n c l W _ hn (Lib.hid (HK.out W hW).1) (Lib.hid fun b h => h) hr).mono ?_
    rintro e w' ⟨h1, h2⟩
    exact ⟨h1, hW.trans (h2.mono hW.size)⟩
  have HBF : Hid (∀ W, Below w.heap.size w W → Calls Tryd.prog 7 #[.slice B m d] W fun e w' => (∃ b : Bool, e = .returned (.bool b) ∧ (b = false → cws k ≤ 16777216)) ∧ Below w.heap.size w w') := Lib.hid fun W hW => by
    refine (beyond_any B m d k W _ hm (Lib.hid (HK.out W hW).2.1) (Lib.hid fun b h => h) hr2).mono ?_
    rintro e w' ⟨h1, h2⟩
    exact ⟨h1, hW.trans (h2.mono hW.size)⟩
  go_enter Tryd.func4, Tryd.ntmps4
  go_upto_region 2 with (go_at_call 6; refine HWK.out.mono ?_; rintro _ w1 ⟨rfl, hb1⟩; have HB1 := Lib.hid hb1; clear hb1)
  go_cut [21] from 15 to 21 (fun v wc => ∃ bq : Bool, v = .bool bq ∧ Hid (bq = false → cws l ≤ 16777216 ∧ cws k ≤ 16777216) ∧ Hid (Below w.heap.size w wc))
  case first =>
    go_wp2_with (first
      | (go_at_call_of 7 A; refine (HBE.out _ HB1.out).mono ?_; rintro _ w2 ⟨⟨b1, rfl, hq1⟩, hb2⟩; have HQ1 := Lib.hid hq1; have HB2 := Lib.hid hb2; clear hq1 hb2)
      | (go_at_call_of 7 B; refine (HBF.out _ HB2.out).mono ?_; rintro _ w3 ⟨⟨b2, rfl, hq2⟩, hb3⟩; have HQ2 := Lib.hid hq2; have HB3 := Lib.hid hb3; clear hq2 hb3))
    all_goals (go_meet; first
      | exact ⟨_, rfl, Lib.hid fun h => ⟨HQ1.out (by first | rfl | assumption | simp_all), HQ2.out h⟩, HB3⟩
      | exact ⟨true, rfl, Lib.hid fun h => (by cases h), HB2⟩)
  case rest =>
    obtain ⟨bq, rfl, HQ, HB2⟩ := hcut
    obtain ⟨w2, rfl⟩ : ∃ W : World, W = wc := ⟨_, rfl⟩
    cases bq
    case true =>
      go_wp2_with fail
      go_ret
      exact ⟨rfl, HB2.out⟩
    case false =>
      obtain ⟨hcw1, hcw2⟩ := HQ.out rfl
      have HRM : Hid (∀ x ∈ l, x.room) := Lib.hid (room_of hcw1 hr.out)
      have HRM2 : Hid (∀ x ∈ k, x.room) := Lib.hid (room_of hcw2 hr2.out)
      have hn24 : n ≤ 16777216 := by rw [hn.out]; exact Nat.le_trans (cws_len l) hcw1
      have hm24 : m ≤ 16777216 := by rw [hm.out]; exact Nat.le_trans (cws_len k) hcw2
      clear hcw1 hcw2 HQ
      obtain ⟨xe, hxe⟩ : ∃ x, x = (codeOf l).1 := ⟨_, rfl⟩
      obtain ⟨xp, hxp⟩ : ∃ x, x = (codeOf l).2 := ⟨_, rfl⟩
      obtain ⟨ye, hye⟩ : ∃ x, x = (codeOf (l ++ k)).1 := ⟨_, rfl⟩
      obtain ⟨yp, hyp⟩ : ∃ x, x = (codeOf (l ++ k)).2 := ⟨_, rfl⟩
      have HEQ : Hid (xe = 2 ∨ xe = 72 ∨ xe = 77 → ye = xe ∧ yp = xp) := Lib.hid fun h => by
        rw [hxe] at h
        rw [hye, hyp, hxe, hxp, codeOf_longer l k h]
        exact ⟨rfl, rfl⟩
      have HR1 : Hid (Calls Tryd.prog 8 #[.slice A n c, .bool q] w2 fun e w' => (∃ (A1 : Option Addr) (n1 c1 : Nat) (A2 : Option Addr) (n2 c2 : Nat) (A3 : Option Addr) (n3 c3 : Nat) (qq : Bool), e = .returned (.tuple #[.agg #[.slice A1 n1 c1, .slice A2 n2 c2, .slice A3 n3 c3, .bool qq], .int .i64 xe, .int .i64 xp])) ∧ Below w2.heap.size w2 w') := Lib.hid ((resolve_any A n c l q w2 _ hn (Lib.hid (HK.out w2 HB2.out).1) (Lib.hid fun b h => h) (Lib.hid (HK.out w2 HB2.out).2.2) HRM (by omega)).mono fun e w' h => by
        rw [hxe, hxp]; exact h.form)
      have HR2 : Hid (∀ (W : World) (V : Option Addr) (vc : Nat) (SS : Blocks), Below w.heap.size w W → SliceAt Rep.cm W SS V vc (l ++ k) → (∀ b, SS b → b < W.heap.size) → Calls Tryd.prog 8 #[.slice V (n + m) vc, .bool (!q)] W fun e w' => (∃ (A1 : Option Addr) (n1 c1 : Nat) (A2 : Option Addr) (n2 c2 : Nat) (A3 : Option Addr) (n3 c3 : Nat) (qq : Bool), e = .returned (.tuple #[.agg #[.slice A1 n1 c1, .slice A2 n2 c2, .slice A3 n3 c3, .bool qq], .int .i64 ye, .int .i64 yp])) ∧ Below W.heap.size W w') := Lib.hid fun W V vc SS hW hs hss => (resolve_any V (n + m) vc (l ++ k) (!q) W SS (Lib.hid (by rw [List.length_append, hn.out, hm.out])) (Lib.hid hs) (Lib.hid hss) (Lib.hid (hE.out.below hW)) (Lib.hid fun x hx => by
        rcases List.mem_append.1 hx with h | h
        · exact HRM.out x h
        · exact HRM2.out x h) (by omega)).mono fun e w' h => by
        rw [hye, hyp]; exact h.form
      clear hxe hxp hye hyp
      go_upto_region 5 with (go_at_call 8; refine HR1.out.mono ?_; rintro _ w3 ⟨⟨A1, n1, c1, A2, n2, c2, A3, n3, c3, qq, rfl⟩, hb3⟩; have HB3 := Lib.hid hb3; clear hb3)
      obtain ⟨w4, hw4⟩ : ∃ W, W = w3.alloc (.cells #[.slice A1 n1 c1, .slice A2 n2 c2, .slice A3 n3 c3, .bool qq] 28) := ⟨_, rfl⟩
      obtain ⟨g4, hg4⟩ : ∃ g, g = w3.heap.size := ⟨_, rfl⟩
      rw [← hw4, ← hg4]
      have HB4 : Hid (Below w.heap.size w w4) := Lib.hid (by rw [hw4]; exact (HB2.out.trans (HB3.out.mono HB2.out.size)).alloc (Nat.le_trans HB2.out.size HB3.out.size) _)
      clear hw4 hg4
      have HCP := Lib.hid (copyCmds_any A n c l w4 _ hn (Lib.hid (HK.out w4 HB4.out).1) (Lib.hid fun b h => h) HRM hn24)
      go_upto_region 6 with (first
        | (go_at_call 14; refine HCP.out.mono ?_; rintro _ w5 ⟨C1, e1, S1, rfl, hown, hs1, hb5⟩; have HO5 := Lib.hid hown; have HS5 := Lib.hid hs1; have HB5 := Lib.hid hb5; clear hown hs1 hb5)
        | (at_builtin; refine wpList_append_Own _ rfl (.tmp 31) (.tmp 32) 22 rfl Rep.cm w4.heap.size 44 440 stCms S1 (.slice C1 n e1) l rfl HO5.out (under w4.heap.size) B d k (by rw [← hm.out]; rfl) ((HK.out w4 HB4.out).2.1.keep (fun b h => h) (Same.of_below HB5.out fun b h => h)) (fun b => S1 b ∨ b < w4.heap.size) (sep_old HO5.out HB5.out.size) (fun _ h => .inl h) (flat_old S1) (by rw [← hn.out, ← hm.out]; omega) (by rw [← hn.out, ← hm.out]; omega) HB5.out.size ?_; intro v6 w6 hown hg6 _; obtain ⟨C2, nn, e2, rfl, hnn, -, -⟩ := hown.form; have HO6 := Lib.hid hown; have HG6 := Lib.hid hg6; have HNN := Lib.hid hnn.out; clear hown hg6 hnn))
      have hnn : nn = n + m := by rw [HNN.out, List.length_append, hn.out, hm.out]
      subst hnn
      have HB6 : Hid (Below w.heap.size w w6) := Lib.hid ((HB4.out.trans (HB5.out.mono HB4.out.size)).grown HG6.out (Nat.le_trans HB4.out.size HB5.out.size) fun j hj => by
        obtain ⟨_, hx, _⟩ := HO5.out
        exact Nat.le_trans HB4.out.size (hx.lt j hj).1)
      have HSL : Hid (∃ SS : Blocks, SliceAt Rep.cm w6 SS C2 e2 (l ++ k) ∧ ∀ b, SS b → b < w6.heap.size) := Lib.hid (by
        obtain ⟨A', c', e, hs⟩ := HO6.out.slice
        simp only [Value.slice.injEq] at e
        obtain ⟨rfl, -, rfl⟩ := e
        obtain ⟨_, _, h3, _⟩ := HO6.out
        exact ⟨_, hs, fun b hb => hb.elim (fun h => h.2.1) fun h => (h3 b h).1⟩)
      obtain ⟨SS, hss1, hss2⟩ := HSL.out
      have HC2 := Lib.hid (HR2.out w6 C2 e2 SS HB6.out hss1 hss2)
      clear hss1 hss2
      go_upto_region 7 with (go_at_call 8; refine HC2.out.mono ?_; rintro _ w7 ⟨⟨B1, k1, d1, B2, k2, d2, B3, k3, d3, qq2, rfl⟩, hb7⟩; have HB7 := Lib.hid hb7; clear hb7)
      have HB8 : Hid (Below w.heap.size w (w7.alloc (.cells #[.slice B1 k1 d1, .slice B2 k2 d2, .slice B3 k3 d3, .bool qq2] 28))) := Lib.hid ((HB6.out.trans (HB7.out.mono HB6.out.size)).alloc (Nat.le_trans HB6.out.size HB7.out.size) _)
      by_cases h72 : xe = 72
      · obtain ⟨rfl, rfl⟩ := HEQ.out (.inr (.inl h72))
        subst h72
        go_wp2_with fail
        go_ret
        exact ⟨by simp, HB8.out⟩
      by_cases h77 : xe = 77
      · obtain ⟨rfl, rfl⟩ := HEQ.out (.inr (.inr h77))
        subst h77
        go_wp2_with fail
        go_ret
        exact ⟨by simp, HB8.out⟩
      by_cases h2 : xe = 2
      · obtain ⟨rfl, rfl⟩ := HEQ.out (.inl h2)
        subst h2
        go_wp2_with fail
        go_ret
        exact ⟨by simp, HB8.out⟩
      have k72 : (xe == 72) = false := by simpa using h72
      have k77 : (xe == 77) = false := by simpa using h77
      have k2' : (xe == 2) = false := by simpa using h2
      go_wp2_with fail
      go_ret
      exact ⟨rfl, HB8.out⟩
end Go.Proofs.YtnpideapdjomgaaDoor
