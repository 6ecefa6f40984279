/- A file swapped for another one, the power going anywhere: the walk of galleylaw03.DiskSwap. Condition: there are not more than 8 * 10^12 parts; what is handed in lies within reach. -/
import Derived.Test.YtignnohjggjkoaaSwapped
import Derived.Test.YtignnohjggjkoaaLives03
import Derived.Test.YtignnohjggjkoaaDiskNames
namespace Go.Proofs.Ytignnohjggjkoaa
open Go.RowKit Go.ChangeShapes Go.WideShapes Go.Deep

section
variable {w : World}
theorem six {wr : World} {b : Nat} {v0 v1 v2 v3 v4 v5 : Value} {t : TypeId} (h : wr.heap[b]? = some (.cells #[v0, v1, v2, v3, v4, v5] t (0, 0))) :
    wr.cell? ⟨b, 0, none⟩ = some v0 ∧ wr.cell? ⟨b, 1, none⟩ = some v1 ∧ wr.cell? ⟨b, 2, none⟩ = some v2 ∧ wr.cell? ⟨b, 3, none⟩ = some v3 ∧ wr.cell? ⟨b, 4, none⟩ = some v4 ∧ wr.cell? ⟨b, 5, none⟩ = some v5 :=
  ⟨(cell_of_row _ _ 0 _ _ (0, 0) h).trans rfl, (cell_of_row _ _ 1 _ _ (0, 0) h).trans rfl, (cell_of_row _ _ 2 _ _ (0, 0) h).trans rfl, (cell_of_row _ _ 3 _ _ (0, 0) h).trans rfl, (cell_of_row _ _ 4 _ _ (0, 0) h).trans rfl, (cell_of_row _ _ 5 _ _ (0, 0) h).trans rfl⟩
theorem wf64 {x : Int} (h0 : 0 ≤ x) (h1 : x ≤ 9223372036854775807) : (Lit.int .i64 x).wf = true := by
  simp [Lit.wf, IntKind.min, IntKind.max, IntKind.signed, IntKind.bits]; omega
theorem Kd.next {w0 w w' : World} {F : Blocks} {d : Nat} {s t : Disk.St} (h : Kd w0 w F d s) (h1 : DiskAt w' (grow F w w') d t) (h2 : Only F w w') : Kd w0 w' (grow F w w') d t :=
  ⟨h1, h.below.trans (h2.below h.below.size h.base), grow_base h.base h.below.size⟩
theorem len_flat_take (ps : List (List UInt8)) {j : Nat} (hj : j < ps.length) : (ps.take (j + 1)).flatten.length = (ps.take j).flatten.length + ps[j].length := by
  rw [List.take_succ_eq_append_getElem hj, List.flatten_append]
  simp
theorem SliceAt.far {α : Type} {r : Rep α} {w w' : World} {S : Blocks} {A : Option Addr} {c : Nat} {l : List α} (h : SliceAt r w S A c l) (hS : ∀ b, S b → b < w.heap.size) (hb : Below w.heap.size w w') : SliceAt r w' S A c l :=
  h.keep (fun _ h => h) (Same.of_below hb hS)
theorem eqBytes_n (A B : Option Addr) (c d n m : Nat) (xs ys : List UInt8) (w : World) (S S' : Blocks) (hn : n = xs.length) (hm : m = ys.length) (hx : SliceAt Rep.byte w S A c xs) (hy : SliceAt Rep.byte w S' B d ys) :
    Calls Try.prog 16 #[.slice A n c, .slice B m d] w fun e w' => e = .returned (.bool (decide (xs = ys))) ∧ Below w.heap.size w w' := by
  subst hn; subst hm
  refine (eqBytes A B c d xs ys w S S' hx hy).mono ?_
  rintro e w' ⟨rfl, n, rfl⟩
  exact ⟨rfl, below_dr _ _⟩
theorem flat_take_le (ps : List (List UInt8)) (k : Nat) : (ps.take k).flatten.length ≤ ps.flatten.length := by
  have h : (ps.take k ++ ps.drop k).flatten.length = ps.flatten.length := by rw [List.take_append_drop]
  rw [List.flatten_append, List.length_append] at h
  omega
theorem len_flat_le (ps : List (List UInt8)) : ∀ p ∈ ps, p.length ≤ ps.flatten.length := by
  intro p hp
  rw [List.length_flatten]
  obtain ⟨a, b, rfl⟩ := List.append_of_mem hp
  simp; omega
set_option maxRecDepth 100000 in
set_option maxHeartbeats 8000000 in
theorem diskSwap_any (O : List UInt8) (ps : List (List UInt8)) (at_ dir : Int) (last : Bool) (keep : List Int) (OA P KA : Option Addr) (on oc n cp kn kc : Nat) (hon : Hid (on = O.length)) (hn : Hid (n = ps.length)) (hkn : Hid (kn = keep.length))
    (hO : Hid (SliceAt Rep.byte w (under w.heap.size) OA oc O)) (hp : Hid (SliceAt Rep.byte.slice w (under w.heap.size) P cp ps)) (hk : Hid (SliceAt (Rep.int .i64) w (under w.heap.size) KA kc keep)) (hwf : Hid ((Lit.int .i64 at_).wf = true))
    (hob : on ≤ 281474976710656) (hnb : n ≤ 8000000000000) (hpb : Hid (∀ p ∈ ps, p.length ≤ 281474976710656)) :
    Calls Try.prog 3 #[.agg #[.slice OA on oc, .slice P n cp, .int .i64 at_, .bool last, .int .i64 dir, .slice KA kn kc]] w fun e w' => e = .returned (.bool true) ∧ Below w.heap.size w w' := by
  have hnc : n ≤ cp := by rw [hn.out]; exact hp.out.len
  have hcm := hp.out.max
  have hoc : on ≤ oc := by rw [hon.out]; exact hO.out.len
  have hocm := hO.out.max
  have hkc : kn ≤ kc := by rw [hkn.out]; exact hk.out.len
  have hkcm := hk.out.max
  obtain ⟨W, hW⟩ : ∃ W, W = w.alloc (.cells #[.slice OA on oc, .slice P n cp, .int .i64 at_, .bool last, .int .i64 dir, .slice KA kn kc] 26) := ⟨_, rfl⟩
  have hbW : Below w.heap.size w W := by rw [hW]; exact Below.alloc (Below.refl _ _) (Nat.le_refl _) _
  have hbox : W.heap[w.heap.size]? = some (.cells #[.slice OA on oc, .slice P n cp, .int .i64 at_, .bool last, .int .i64 dir, .slice KA kn kc] 26 (0, 0)) := by rw [hW]; exact heap_alloc_new _ _
  have hwlt : w.heap.size < W.heap.size := (Array.getElem?_eq_some_iff.1 hbox).1
  have hbx : Hid (∀ wr, Below W.heap.size W wr → wr.heap[w.heap.size]? = some (.cells #[.slice OA on oc, .slice P n cp, .int .i64 at_, .bool last, .int .i64 dir, .slice KA kn kc] 26 (0, 0))) := Lib.hid fun wr ho => (ho.block _ hwlt).trans hbox
  have HOW : Hid (∀ wr, Below W.heap.size W wr → SliceAt Rep.byte wr (under w.heap.size) OA oc O) := Lib.hid fun wr hb => hO.out.keep (fun _ h => h) ((Same.of_below hbW fun _ h => h).trans (Same.of_below hb fun _ h => Nat.lt_trans h hwlt))
  have HPW : Hid (∀ wr, Below W.heap.size W wr → SliceAt Rep.byte.slice wr (under w.heap.size) P cp ps) := Lib.hid fun wr hb => hp.out.keep (fun _ h => h) ((Same.of_below hbW fun _ h => h).trans (Same.of_below hb fun _ h => Nat.lt_trans h hwlt))
  have HKW : Hid (∀ wr, Below W.heap.size W wr → SliceAt (Rep.int .i64) wr (under w.heap.size) KA kc keep) := Lib.hid fun wr hb => hk.out.keep (fun _ h => h) ((Same.of_below hbW fun _ h => h).trans (Same.of_below hb fun _ h => Nat.lt_trans h hwlt))
  have HBW := Lib.hid hbW
  have HWL := Lib.hid hwlt
  have hback : Hid (∀ wr, Below W.heap.size W wr → Below w.heap.size w wr) := Lib.hid fun wr hb => hbW.trans (hb.mono (Nat.le_of_lt hwlt))
  go_enter Try.func3, Try.ntmps3
  go_wp2_with fail
  rw [← hW]
  obtain ⟨c0, c1, c2, c3, c4, c5⟩ := six hbox
  have HBX := Lib.hid hbox
  clear hW hbW hwlt hbox
  go_loopg [3, 4] n (fun q v i wr => ∃ (j T : Nat), q = n - j ∧ j ≤ n ∧ i = .int .i64 j ∧ v = .int .i64 T ∧ Hid (wr = W) ∧ Hid (T = (ps.take j).flatten.length) ∧ T ≤ 562949953421312)
  case atStart => exact ⟨0, 0, rfl, by omega, rfl, rfl, Lib.hid rfl, Lib.hid (by simp), by omega⟩
  case round =>
    obtain ⟨j, T, rfl, hj, rfl, rfl, HW, HT, hTb⟩ := hrel
    obtain rfl := HW.out
    by_cases hgo : j < n ∧ T ≤ 16777216
    · obtain ⟨hjn, hT⟩ := hgo
      have hjl : j < ps.length := by rw [← hn.out]; exact hjn
      obtain ⟨g, o, cs, rfl, hg, hcs, B, cb, rfl, hB⟩ := (HPW.out wr (Below.refl _ _)).at_ (i := j) hjl
      obtain ⟨m, hm⟩ : ∃ m, m = (ps[j]).length := ⟨_, rfl⟩
      rw [← hm] at hcs
      have kp := hcs.one
      rw [show Rep.byte.slice.n = 1 from rfl, Nat.mul_one] at kp
      have hmb : m ≤ 281474976710656 := by rw [hm]; exact hpb.out _ (List.getElem_mem hjl)
      have HTN : Hid (T + m = (ps.take (j + 1)).flatten.length) := Lib.hid (by rw [len_flat_take ps hjl, HT.out, hm])
      clear hm hcs hB hg
      go_wp2_with fail
      go_roundg (n - (j + 1))
      case measure => omega
      case rel => exact ⟨j + 1, T + m, rfl, by omega, by go_num, by go_num, Lib.hid rfl, HTN, by omega⟩
    · by_cases hbig : 16777216 < on + T
      · have hstop : (j < n ∧ 16777216 < T) ∨ j = n := by omega
        clear hgo
        rcases hstop with ⟨hjn, hT⟩ | rfl
        all_goals
          go_wp2_with fail
          go_ret
          exact ⟨rfl, HBW.out⟩
      · obtain rfl : j = n := by omega
        clear hgo
        by_cases hkb : 16777216 < kn
        · go_wp2_with fail
          go_ret
          exact ⟨rfl, HBW.out⟩
        · have HTT : Hid (O.length + ps.flatten.length ≤ 16777216) := Lib.hid (by
            have h := HT.out
            rw [hn.out, List.take_length] at h
            rw [← hon.out, ← h]; omega)
          go_wp2_with fail
          refine lives_any.mono ?_
          rintro e w2 ⟨rfl, hb2⟩
          have HB2 : Hid (Below wr.heap.size wr w2) := Lib.hid hb2
          clear c0 c1 c2 c3 c4 c5
          obtain ⟨c0, c1, c2, c3, c4, c5⟩ := six (hbx.out w2 hb2)
          clear hb2
          go_wp2_with fail
          have hOb : O.length ≤ 16777216 := by have := HTT.out; omega
          have hwfO : (Lit.int .i64 (O.length : Int)).wf = true := wf64 (by omega) (by omega)
          have HFA : Hid (SliceAt Rep.fin (w2.alloc (.cells #[.string ⟨#[102, 105, 108, 101]⟩, .slice OA on oc, .int .i64 on, .bool false] 33)) (fun b => b = w2.heap.size ∨ under w.heap.size b) (some ⟨w2.heap.size, 0, none⟩) 1 (Disk.swapFs O)) := Lib.hid (SliceAt.new1 Rep.fin w2 33 #[.string ⟨#[102, 105, 108, 101]⟩, .slice OA on oc, .int .i64 on, .bool false] ⟨Disk.nF, O, O.length, false⟩ (under w.heap.size) ⟨OA, oc, by rw [hon.out]; rfl, HOW.out w2 HB2.out, show Disk.nF.length ≤ maxLen by decide, hwfO⟩ (fun b hb => Nat.lt_of_lt_of_le (Nat.lt_trans hb HWL.out) HB2.out.size))
          have HW2 : Hid (Below wr.heap.size wr (w2.alloc (.cells #[.string ⟨#[102, 105, 108, 101]⟩, .slice OA on oc, .int .i64 on, .bool false] 33))) := Lib.hid (HB2.out.alloc HB2.out.size _)
          clear hwfO
          refine (from_any 16777216 (some ⟨w2.heap.size, 0, none⟩) 1 1 (Disk.swapFs O) _ (Lib.hid rfl) HFA (Lib.hid ?_) (Lib.hid ?_)).mono ?_
          · rintro b (rfl | hb)
            · simp
            · exact Nat.lt_of_lt_of_le (Nat.lt_trans hb HWL.out) HW2.out.size
          · intro f hf
            rw [List.mem_singleton.1 hf]
            exact Nat.le_trans hOb (by decide)
          rintro e w3 (⟨h1, -, -⟩ | ⟨-, d, rfl, h2, h3⟩)
          · exact absurd (Disk.swap_from hOb) h1
          obtain ⟨F3, hF3⟩ : ∃ F, F = btw (w2.alloc (.cells #[.string ⟨#[102, 105, 108, 101]⟩, .slice OA on oc, .int .i64 on, .bool false] 33)).heap.size w3.heap.size := ⟨_, rfl⟩
          obtain ⟨s0, hs0⟩ : ∃ s0, s0 = Disk.fromSt 16777216 (Disk.swapFs O) := ⟨_, rfl⟩
          rw [← hF3, ← hs0] at h2
          have K3 : Hid (Kd wr w3 F3 d s0) := Lib.hid ⟨h2, HW2.out.trans (h3.mono HW2.out.size), by rw [hF3]; exact fun b hb => Nat.le_trans HW2.out.size hb.1⟩
          have HS0 := Lib.hid hs0
          clear hF3 hs0 h2 h3 HFA HW2 c0 c1 c2 c3 c4 c5
          obtain ⟨c0, c1, c2, c3, c4, c5⟩ := six (hbx.out w3 K3.out.below)
          go_upto_region 12 with fail
          go_cut [80] from 69 (fun v80 wc => v80 = .bool false ∧ ∃ F5 s5, Hid (Kd wr wc F5 d s5) ∧ Hid (Disk.Sw O .a at_ 0 s5) ∧ Hid (Disk.Fine s5) ∧ Hid (Disk.Cnt 0 0 0 s5))
          case first =>
            by_cases ha : 1 ≤ at_
            · go_wp2_with fail
              have HPL : Hid (SliceAt Rep.fault (w3.alloc (.cells #[.int .i64 at_, .int .i64 24] 37)) (fun b => b = w3.heap.size ∨ nob b) (some ⟨w3.heap.size, 0, none⟩) 1 [(at_, 24)]) := Lib.hid (SliceAt.new1 Rep.fault w3 37 #[.int .i64 at_, .int .i64 24] (at_, 24) nob ⟨rfl, hwf.out, wf64 (by omega) (by omega)⟩ fun _ h => h.elim)
              have K4 := Lib.hid (K3.out.far (Below.alloc (Below.refl w3.heap.size w3) (Nat.le_refl _) (.cells #[.int .i64 at_, .int .i64 24] 37)))
              refine (plan_any (some ⟨w3.heap.size, 0, none⟩) 1 1 [(at_, 24)] _ (Lib.hid K4.out.at_) (Lib.hid rfl) HPL (Lib.hid ?_) (by omega)).mono ?_
              · rintro b (rfl | hb)
                · exact ⟨by simp, fun h => absurd (K3.out.at_.lt _ h) (Nat.lt_irrefl _)⟩
                · exact hb.elim
              rintro e w4 hcall
              obtain ⟨he, hk5⟩ := K4.out.call hcall
              have he2 : e = .returned (.int .i64 0) := he.trans (by rw [HS0.out, Disk.swap_plan O ha])
              subst he2
              have HK5 := Lib.hid hk5
              have HB5 := Lib.hid (Disk.swap_begin_at O ha)
              rw [← HS0.out] at HB5
              have HF5 : Hid (Disk.Fine (s0.plan_ [(at_, 24)]).1) := Lib.hid (Disk.fine_act (by rw [HS0.out]; exact Disk.fine_from (Disk.swap_from hOb)) (.plan [(at_, 24)]))
              have HC5 : Hid (Disk.Cnt 0 0 0 (s0.plan_ [(at_, 24)]).1) := Lib.hid (by rw [HS0.out]; exact Disk.swap_cnt_at O ha)
              clear hcall he hk5
              go_wp2_with fail
              go_meet
              case rel => exact ⟨rfl, _, _, HK5, HB5, HF5, HC5⟩
            · go_wp2_with fail
              go_meet
              case rel => exact ⟨rfl, F3, s0, K3, Lib.hid (by rw [HS0.out]; exact Disk.swap_begin O (by omega)), Lib.hid (by rw [HS0.out]; exact Disk.fine_from (Disk.swap_from hOb)), Lib.hid (by rw [HS0.out]; exact Disk.swap_cnt O)⟩
          case rest =>
            obtain ⟨rfl, F5, s5, K5, HSW, HF5, HC5⟩ := hcut
            clear c0 c1 c2 c3 c4 c5
            obtain ⟨c0, c1, c2, c3, c4, c5⟩ := six (hbx.out wc K5.out.below)
            go_wp2_with fail
            refine (swapped_any ps last P OA KA j cp on oc kn kc at_ dir (under w.heap.size) hn (Lib.hid (HPW.out wc K5.out.below)) (Lib.hid fun b hb => ⟨?_, fun h => ?_⟩) hnb (Lib.hid fun p hp => ?_) (Lib.hid K5.out.at_) HF5 HC5).mono ?_
            · exact Nat.lt_of_lt_of_le (Nat.lt_trans hb HWL.out) K5.out.below.size
            · have := K5.out.base b h
              have := HWL.out
              have : b < w.heap.size := hb
              omega
            · have := len_flat_le ps p hp
              have := HTT.out
              omega
            rintro e w6 ⟨rfl, hk6⟩
            have HL := Lib.hid (Disk.swapped_law ps last HSW.out HTT.out)
            have HF6 := Lib.hid (Disk.fine_swapped HF5.out ps last)
            obtain ⟨r, hr⟩ : ∃ r, r = s5.swapped ps last := ⟨_, rfl⟩
            rw [← hr] at hk6 HL HF6 ⊢
            clear hr
            obtain ⟨s6, al⟩ := r
            have HK6 := Lib.hid (K5.out.next hk6.at_ hk6.only)
            obtain ⟨F6, hF6⟩ : ∃ F, F = grow F5 wc w6 := ⟨_, rfl⟩
            rw [← hF6] at HK6
            have hcalls : ((ps.length : Nat) : Int) = (j : Int) := by rw [← hn.out]
            rw [hcalls] at HL
            obtain ⟨CL, hCL⟩ : ∃ x : Int, x = (j : Int) + 3 + (if last = true then 1 else 0) := ⟨_, rfl⟩
            rw [← hCL] at HL
            have hCL1 : CL ≤ 8000000000004 := by rw [hCL]; split <;> omega
            have hCL0 : 3 ≤ CL := by rw [hCL]; split <;> omega
            have HCL := Lib.hid hCL
            clear hk6 hF6 hcalls hCL c0 c1 c2 c3 c4 c5
            obtain ⟨c0, c1, c2, c3, c4, c5⟩ := six (hbx.out w6 HK6.out.below)
            have HAL : Hid (al = decide (at_ < 1 ∨ CL < at_)) := Lib.hid HL.out.1
            have HON : Hid (s6.on = al) := Lib.hid HL.out.2.1
            go_upto_if 89 with fail
            go_cut [9] from 88 (fun v9 wd => v9 = .int .i64 CL ∧ Hid (wd = w6))
            case first =>
              cases last
              · go_wp2_with fail
                go_meet
                case rel => exact ⟨by rw [HCL.out]; simp, Lib.hid rfl⟩
              · go_wp2_with fail
                go_meet
                case rel => exact ⟨by rw [HCL.out]; simp, Lib.hid rfl⟩
            case rest =>
              obtain ⟨rfl, hwd⟩ := hcut
              obtain rfl := hwd.out
              have HPO : Hid (∀ b, al = b → Calls Try.prog 12 #[.pointer (some ⟨d, 0, none⟩)] wc fun e w' => e = .returned (.bool b) ∧ wc = w') := Lib.hid fun b hb => by
                have h := power_any (Lib.hid HK6.out.at_)
                rw [HON.out, hb] at h
                exact h
              go_upto_region 18 with fail
              go_cut [108] from 92 (fun v108 we => v108 = .bool false ∧ Hid (we = wc))
              case first =>
                rcases (show (decide (at_ < 1) = true ∧ al = true) ∨ (decide (at_ < 1) = false ∧ decide (CL < at_) = true ∧ al = true) ∨ (decide (at_ < 1) = false ∧ decide (CL < at_) = false ∧ al = false) from by
                  rw [HAL.out]
                  by_cases h1 : at_ < 1
                  · exact .inl ⟨decide_eq_true h1, decide_eq_true (.inl h1)⟩
                  · by_cases h2 : CL < at_
                    · exact .inr (.inl ⟨decide_eq_false h1, decide_eq_true h2, decide_eq_true (.inr h2)⟩)
                    · exact .inr (.inr ⟨decide_eq_false h1, decide_eq_false h2, decide_eq_false (by omega)⟩)) with ⟨h1, h2⟩ | ⟨h1, h3, h2⟩ | ⟨h1, h3, h2⟩
                all_goals
                  have HP := Lib.hid (HPO.out _ h2)
                  subst h2
                  go_wp2_with fail
                  refine HP.out.mono ?_
                  rintro e w7 ⟨rfl, rfl⟩
                  go_wp2_with fail
                  go_meet
                  case rel => exact ⟨rfl, Lib.hid rfl⟩
              case rest =>
                obtain ⟨rfl, hwe⟩ := hcut
                obtain rfl := hwe.out
                clear HPO HAL
                go_wp2_with fail
                refine (off_any (Lib.hid HK6.out.at_)).mono ?_
                rintro e w7 ⟨rfl, hd7, ho7⟩
                have K7 := Lib.hid (HK6.out.next (hd7.up (fun _ hb => .inl hb) (grow_lt HK6.out.at_.lt ho7.size)) ho7)
                clear hd7 ho7 c0 c1 c2 c3 c4 c5
                obtain ⟨F7, hF7⟩ : ∃ F, F = grow F6 wc w7 := ⟨_, rfl⟩
                rw [← hF7] at K7
                obtain ⟨c0, c1, c2, c3, c4, c5⟩ := six (hbx.out w7 K7.out.below)
                have HF7 : Hid (Disk.Fine s6.off) := Lib.hid (Disk.fine_act HF6.out .off)
                clear hF7
                go_wp2_with fail
                refine (start_off dir KA kn kc keep (under w.heap.size) (Lib.hid K7.out.at_) HF7 rfl hkn (Lib.hid (HKW.out w7 K7.out.below)) (Lib.hid fun b hb => ⟨?_, fun h => ?_⟩) (by omega) (Nat.le_trans (Disk.swap_row HL.out) (by decide))).mono ?_
                · exact Nat.lt_of_lt_of_le (Nat.lt_trans hb HWL.out) K7.out.below.size
                · have := K7.out.base b h
                  have := HWL.out
                  have : b < w.heap.size := hb
                  omega
                rintro e w8 ⟨rfl, hd8, ho8⟩
                have K8 := Lib.hid (K7.out.next hd8 ho8)
                have HEN := Lib.hid (Disk.swap_ends HL.out dir keep)
                have HF8 : Hid (Disk.Fine (s6.off.start dir keep)) := Lib.hid (Disk.fine_act HF7.out (.start dir keep))
                obtain ⟨F8, hF8⟩ : ∃ F, F = grow F7 w7 w8 := ⟨_, rfl⟩
                obtain ⟨s8, hs8⟩ : ∃ s, s = s6.off.start dir keep := ⟨_, rfl⟩
                rw [← hF8, ← hs8] at K8
                rw [← hs8] at HF8 HEN
                clear hd8 ho8 c0 c1 c2 c3 c4 c5 hF8 hs8
                obtain ⟨c0, c1, c2, c3, c4, c5⟩ := six (hbx.out w8 K8.out.below)
                go_wp2_with fail
                go_loopg [10, 11] j (fun q v i wr => ∃ (k : Nat), q = j - k ∧ k ≤ j ∧ i = .int .i64 k ∧ Hid (Below w8.heap.size w8 wr) ∧ Hid (Own Rep.byte 5 wr w8.heap.size nob v (ps.take k).flatten))
                case atStart => exact ⟨0, rfl, by omega, rfl, Lib.hid (Below.refl _ _), Lib.hid (by simpa using Own.nil _ _ _ _)⟩
                case round =>
                  obtain ⟨k, rfl, hk, rfl, HB, HV⟩ := hrel
                  obtain ⟨vA, vn, vc, rfl, hvn, hvnc, hvcm⟩ := HV.out.form
                  have hbr := K8.out.below.trans (HB.out.mono K8.out.below.size)
                  have HBR := Lib.hid hbr
                  clear c0 c1 c2 c3 c4 c5
                  obtain ⟨c0, c1, c2, c3, c4, c5⟩ := six (hbx.out wr hbr)
                  have hpr := HPW.out wr hbr
                  clear hbr
                  by_cases hkj : k < j
                  · have hkl : k < ps.length := by rw [← hn.out]; exact hkj
                    obtain ⟨g, o, cs, rfl, hg, hcs, B, cb, rfl, hB⟩ := hpr.at_ (i := k) hkl
                    obtain ⟨m, hm⟩ : ∃ m, m = (ps[k]).length := ⟨_, rfl⟩
                    rw [← hm] at hcs
                    have kp := hcs.one
                    rw [show Rep.byte.slice.n = 1 from rfl, Nat.mul_one] at kp
                    have hfl : (ps.take k).flatten.length + m = (ps.take (k + 1)).flatten.length := by rw [len_flat_take ps hkl, hm]
                    have hfl2 := flat_take_le ps (k + 1)
                    have hroom : (ps.take k).flatten.length + m ≤ 140737488355328 := by have := HTT.out; omega
                    have HM := Lib.hid hm
                    have HBB := Lib.hid hB
                    clear hm hcs hB hg hpr hfl hfl2
                    go_wp2_with (at_builtin; refine wpList_append_bytes _ rfl (.tmp 124) (.tmp 129) 22 rfl w8.heap.size 5 stBytes (.slice vA vn vc) (ps.take k).flatten rfl HV.out (under w.heap.size) B m cb ps[k] rfl HBB.out HM.out.symm hroom HB.out.size ?_; intro v' w9 hown hg hat; have HO := Lib.hid hown; have HG := Lib.hid (below_own HB.out HV.out hg HB.out.size); clear hown hg hat)
                    go_roundg (j - (k + 1))
                    case measure => omega
                    case rel => exact ⟨k + 1, rfl, by omega, by go_num, HG, Lib.hid (by rw [List.take_succ_eq_append_getElem hkl, List.flatten_append]; simpa using HO.out)⟩
                  · obtain rfl : k = j := by omega
                    clear hpr hkj
                    have hfr := HV.out
                    rw [hn.out, List.take_length] at hfr
                    have hvn2 : Hid (vn = ps.flatten.length) := Lib.hid (by have h := hvn.out; rw [hn.out, List.take_length] at h; exact h)
                    have HFR := Lib.hid hfr
                    have K9 := Lib.hid (K8.out.far HB.out)
                    obtain ⟨b, hb1, hb2⟩ := HEN.out
                    have HB1 := Lib.hid hb1
                    have HB2 := Lib.hid hb2
                    clear hfr HV hb1 hb2
                    go_wp2_with fail
                    refine (read_any ⟨#[102, 105, 108, 101]⟩ (by decide) (Lib.hid K9.out.at_) HF8).mono ?_
                    rintro e w10 ⟨RA, rn, rc, he, hrn, hrc, hrm, hown, hb10⟩
                    rw [show (⟨#[102, 105, 108, 101]⟩ : ByteArray).data.toList = Disk.nF from rfl, HB1.out] at he hrn hown
                    subst he
                    have HRN := Lib.hid hrn.out
                    have K10 := Lib.hid (K9.out.far hb10)
                    have HBF := Lib.hid (Below.refl wr.heap.size wr |>.trans hb10)
                    obtain ⟨rA9, rc9, he9, hsr⟩ := hown.slice
                    simp only [Value.slice.injEq] at he9
                    obtain ⟨rfl, -, rfl⟩ := he9
                    have hrS : ∀ x, ((wr.heap.size ≤ x ∧ x < w10.heap.size ∧ some x = (Value.slice RA rn rc).ownBlock) ∨ nob x) → x < w10.heap.size := fun x hx => hx.elim (fun h => h.2.1) fun h => h.elim
                    obtain ⟨rA9, rc9, he9, hsf⟩ := HFR.out.slice
                    simp only [Value.slice.injEq] at he9
                    obtain ⟨rfl, -, rfl⟩ := he9
                    have hfS : ∀ x, ((w8.heap.size ≤ x ∧ x < wr.heap.size ∧ some x = (Value.slice vA vn vc).ownBlock) ∨ nob x) → x < wr.heap.size := fun x hx => hx.elim (fun h => h.2.1) fun h => h.elim
                    have hsf10 := hsf.far hfS hb10
                    obtain ⟨old, hold⟩ : ∃ x, x = decide (b = O) := ⟨_, rfl⟩
                    obtain ⟨nw, hnw⟩ : ∃ x, x = decide (b = ps.flatten) := ⟨_, rfl⟩
                    have HE1 : Hid (Calls Try.prog 16 #[.slice RA rn rc, .slice OA on oc] w10 fun e w' => e = .returned (.bool old) ∧ Below w10.heap.size w10 w') := Lib.hid (by rw [hold]; exact eqBytes_n RA OA rc oc rn on b O w10 _ _ HRN.out hon.out hsr (HOW.out w10 K10.out.below))
                    have HE2 : Hid (∀ W, Below w10.heap.size w10 W → Calls Try.prog 16 #[.slice RA rn rc, .slice vA vn vc] W fun e w' => e = .returned (.bool nw) ∧ Below W.heap.size W w') := Lib.hid fun W hW => by
                      rw [hnw]
                      exact eqBytes_n RA vA rc vc rn vn b ps.flatten W _ _ HRN.out hvn2.out (hsr.far hrS hW) (hsf10.far (fun x hx => Nat.lt_of_lt_of_le (hfS x hx) hb10.size) hW)
                    have HOLD := Lib.hid hold
                    have HNW := Lib.hid hnw
                    clear hrn hown hb10 hsr hrS hsf hfS hsf10 hold hnw c0 c1 c2 c3 c4 c5
                    obtain ⟨c0, c1, c2, c3, c4, c5⟩ := six (hbx.out w10 K10.out.below)
                    go_wp2_with fail
                    refine HE1.out.mono ?_
                    rintro e w11 ⟨rfl, hb11⟩
                    have K11 := Lib.hid (K10.out.far hb11)
                    have HC2 := Lib.hid (HE2.out w11 hb11)
                    clear hb11 c0 c1 c2 c3 c4 c5
                    go_wp2_with fail
                    refine HC2.out.mono ?_
                    rintro e w12 ⟨rfl, hb12⟩
                    have K12 := Lib.hid (K11.out.far hb12)
                    clear hb12
                    go_wp2_with fail
                    refine (diskNames_any (Lib.hid K12.out.at_) HF8).mono ?_
                    rintro e w13 ⟨NA, nn, nc, rfl, hnn, hnnc, hncm, hnown, hb13⟩
                    have K13 := Lib.hid (K12.out.far hb13)
                    obtain ⟨c0, c1, c2, c3, c4, c5⟩ := six (hbx.out w13 K13.out.below)
                    have HEND := Lib.hid (hback.out w13 K13.out.below)
                    obtain ⟨rA9, rc9, he9, hsn⟩ := hnown.slice
                    simp only [Value.slice.injEq] at he9
                    obtain ⟨rfl, -, rfl⟩ := he9
                    clear hb13 hnown HL HON K13 K12 K11 K10 K9 K8 K7 HK6 HE1 HE2 HC2 HEN HB HBR
                    rcases HB2.out with ⟨hnm, hb⟩ | ⟨hnm, hb, had⟩
                    · rw [hnm] at hnn hsn
                      obtain rfl : nn = 1 := hnn.out
                      obtain ⟨g, o, cs, rfl, -, hcs, rfl, -⟩ := hsn.at_ (i := 0) (by decide)
                      have e0 : w13.cell? ⟨g, o, none⟩ = some (.string ⟨#[102, 105, 108, 101]⟩) := by
                        have h := hcs.one
                        rw [show Rep.str.n = 1 from rfl, Nat.mul_one, Nat.add_zero] at h
                        exact h
                      have hfin : (old = true ∧ (al && last) = false) ∨ nw = true := by
                        rcases hb with ⟨h1, h2⟩ | h1
                        · exact .inl ⟨by rw [HOLD.out]; exact decide_eq_true h1, h2⟩
                        · exact .inr (by rw [HNW.out]; exact decide_eq_true h1)
                      clear hcs hsn hnn hb HOLD HNW HB1 HB2 hnm
                      cases old <;> cases nw <;> cases al <;> cases last <;> (try (exact absurd hfin (by decide))) <;> clear hfin
                      all_goals
                        go_wp2_with fail
                        go_ret
                        exact ⟨rfl, HEND.out⟩
                    · rw [hnm] at hnn hsn
                      obtain rfl : nn = 2 := hnn.out
                      obtain ⟨g, o, cs, rfl, -, hcs, rfl, -⟩ := hsn.at_ (i := 0) (by decide)
                      have e0 : w13.cell? ⟨g, o, none⟩ = some (.string ⟨#[102, 105, 108, 101]⟩) := by
                        have h := hcs.one
                        rw [show Rep.str.n = 1 from rfl, Nat.mul_one, Nat.add_zero] at h
                        exact h
                      obtain ⟨g', o', cs, he9, -, hcs', rfl, -⟩ := hsn.at_ (i := 1) (by decide)
                      simp only [Option.some.injEq, Addr.mk.injEq] at he9
                      obtain ⟨rfl, rfl, -⟩ := he9
                      have e1 : w13.cell? ⟨g, o + 1, none⟩ = some (.string ⟨#[110, 101, 119]⟩) := by
                        have h := hcs'.one
                        rw [show Rep.str.n = 1 from rfl, Nat.mul_one] at h
                        exact h
                      have hold : old = true := by rw [HOLD.out]; exact decide_eq_true hb
                      subst hold
                      clear hcs hcs' hsn hnn hb HOLD HNW HB1 HB2 hnm
                      cases nw <;> cases al <;> cases last <;> (try (exact absurd had (by decide))) <;> clear had
                      all_goals
                        go_wp2_with fail
                        go_ret
                        exact ⟨rfl, HEND.out⟩
end
end Go.Proofs.Ytignnohjggjkoaa
