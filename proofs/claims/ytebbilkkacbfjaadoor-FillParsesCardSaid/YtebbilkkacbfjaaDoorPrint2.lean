/- A replacement written: the walk of fill.Print. Condition: what it is made of is at most 2^31. -/
import Derived.Test.YtebbilkkacbfjaaDoorProg
import Derived.Test.YtebbilkkacbfjaaDoorPrint
import Derived.WalkKit
import Derived.WalkSpells
import Derived.Deep.QuietTactic
import Derived.BigQuiet
import Derived.Lib.Hide
import Derived.Deep.DeepMust
import Derived.OneCell
namespace Go.Proofs.YtebbilkkacbfjaaDoor
open Go.RowKit

/-- What the captured variable holds, in a world behind w: a row of the call's own. -/
def PI (w : World) (g : Nat) (l : List UInt8) (wr : World) : Prop := ∃ v, Var1 wr g 22 v ∧ Own Rep.mark 34 wr w.heap.size nob v (bare l) ∧ Below w.heap.size w wr ∧ w.heap.size ≤ g
theorem PI.below {w wr w2 : World} {g : Nat} {l : List UInt8} (h : PI w g l wr) (hb : Below wr.heap.size wr w2) : PI w g l w2 := by
  obtain ⟨v, h1, h2, h3, h4⟩ := h
  have hg : g < wr.heap.size := (Array.getElem?_eq_some_iff.1 h1).1
  exact ⟨v, (hb.block g hg).trans h1, h2.far hb, h3.trans (hb.mono h3.size), h4⟩
theorem PI.alloc {w wr : World} {g : Nat} {l : List UInt8} (h : PI w g l wr) (o : Obj) : PI w g l (wr.alloc o) := h.below ((Below.refl _ _).alloc (Nat.le_refl _) _)
theorem PI.put {w wr : World} {g : Nat} {l : List UInt8} (h : PI w g l wr) (s : List UInt8) (cs : Array Value) (n : Nat) (hn : s.length = n) (hcs : cs.toList = bcells s) (hl : l.length + n ≤ 17179869184) :
    Calls Tryd.prog 64 #[.slice (some ⟨wr.heap.size, 0, none⟩) n n, .pointer (some ⟨g, 0, none⟩)] (wr.alloc (.cells cs 5)) fun e w' => e = .returned (.tuple #[]) ∧ PI w g (l ++ s) w' := by
  subst hn
  have hg : g < wr.heap.size := by obtain ⟨v, h1, _⟩ := h; exact (Array.getElem?_eq_some_iff.1 h1).1
  obtain ⟨v, h1, h2, h3, h4⟩ := h.alloc (.cells cs 5)
  have hv : ∀ k, v.ownBlock = some k → k < wr.heap.size := by
    intro k hk
    obtain ⟨v', h1', h2', _⟩ := h
    have e : v = v' := by
      have a := (Below.heap_alloc wr (.cells cs 5) g hg).symm.trans h1
      rw [h1'] at a
      injection a with a; injection a with a; injection a with a; injection a with a
      exact a.symm
    subst e
    exact (h2'.block_lt hk).2
  have hs := SliceAt.newRow Rep.byte wr 5 cs s nob s.length s.length rfl (Nat.le_refl _) (by simp only [maxLen]; omega) (fun i hi => by
    rw [hcs]
    have hi' : i < (bcells s).length := by rw [bcells_len]; exact hi
    show ((bcells s).drop (i * 1)).take 1 = [_]
    rw [Nat.mul_one, List.drop_eq_getElem_cons hi']
    simp [bcells]) (fun _ h => h.elim)
  refine (put_any w.heap.size g v _ s.length s.length s l _ _ rfl h4 h3.size h1 h2 hs (fun b hb => ?_) hl).mono fun e w' ⟨he, v', hv1, ho, hon, _⟩ => ⟨he, v', hv1, ho, h3.trans (hon.below h3.size fun b hb => ?_), h4⟩
  · rcases hb with rfl | hb
    · refine ⟨by simp, by omega, fun e => ?_⟩
      have := hv _ e.symm; omega
    · exact hb.elim
  · rcases hb with rfl | hb
    · exact h4
    · exact (h2.block_lt hb.symm).1

theorem printed_take (l : List Piece) (k : Nat) (h : k < l.length) : printed (l.take (k + 1)) = printed (l.take k) ++ printOne l[k] := by
  rw [List.take_succ_eq_append_getElem h]; unfold printed; rw [List.flatMap_append]; simp
theorem wt_app (a b : List Piece) : wt (a ++ b) = wt a + wt b := by simp [wt]
theorem wt_cons (p : Piece) (b : List Piece) : wt (p :: b) = p.text.length + 1 + wt b := by simp [wt]
theorem wt_take (l : List Piece) (k : Nat) (h : k < l.length) : wt (l.take k) + (l[k].text.length + 1) ≤ wt l := by
  have e : wt l = wt (l.take k ++ l[k] :: l.drop (k + 1)) := by rw [← List.drop_eq_getElem_cons h, List.take_append_drop]
  rw [e, wt_app, wt_cons]; omega
theorem escs_len (t : List UInt8) : (t.flatMap escB).length ≤ 2 * t.length := by
  induction t with
  | nil => simp
  | cons b t ih =>
    have : (escB b).length ≤ 2 := escB_len b
    rw [List.flatMap_cons, List.length_append, List.length_cons]; omega

/-- Of what is well shaped each piece is. -/
theorem shaped_at (l : List Piece) : ∀ tb, shapedFrom tb l = true → ∀ p ∈ l, p.group = -1 ∨ (0 ≤ p.group ∧ p.group ≤ 9) := by
  induction l with
  | nil => intro tb _ p hp; cases hp
  | cons q r ih =>
    intro tb h p hp
    unfold shapedFrom at h
    split at h
    · rename_i hg
      simp only [Bool.and_eq_true] at h
      rcases List.mem_cons.1 hp with rfl | hp
      · exact .inl hg
      · exact ih _ h.2 p hp
    · split at h
      · rename_i hg
        simp only [Bool.and_eq_true] at h
        rcases List.mem_cons.1 hp with rfl | hp
        · exact .inr hg
        · exact ih _ h.2 p hp
      · cases h

set_option maxHeartbeats 1000000 in
theorem print_bad (A : Option Addr) (ca : Nat) (l : List Piece) (w : World) (hp : SliceAt Rep.piece w (under w.heap.size) A ca l) (hs : shaped l = false) :
    Calls Tryd.prog 32 #[.slice A l.length ca] w fun e w' => e = .returned (.tuple #[.slice none 0 0, .int .i64 61]) ∧ Below w.heap.size w w' := by
  have HP := Lib.hid hp
  have HS := Lib.hid hs
  clear hp hs
  go_enter Tryd.func32, Tryd.ntmps32
  go_wp2_with (go_at_call 31; refine (shaped_any _ _ _ _ HP.out).mono ?_; rw [HS.out]; rintro e w2 ⟨rfl, hb2⟩)
  go_ret2
  exact ⟨rfl, hb2⟩

set_option maxRecDepth 100000 in
set_option maxHeartbeats 4000000 in
theorem print_any (A : Option Addr) (ca n : Nat) (l : List Piece) (w : World) (hn : n = l.length) (hp : SliceAt Rep.piece w (under w.heap.size) A ca l) (hs : shaped l = true) (hw : wt l ≤ 2147483648) :
    Calls Tryd.prog 32 #[.slice A n ca] w fun e w' => ∃ v, e = .returned (.tuple #[v, .int .i64 0]) ∧ Own Rep.mark 34 w' w.heap.size nob v (bare (printed l)) ∧ Below w.heap.size w w' := by
  have HP := Lib.hid hp
  have HS := Lib.hid hs
  have HW := Lib.hid hw
  have hpl := hp.len
  have hpm := hp.max
  have HN := Lib.hid hn
  rw [← hn] at hpl
  clear hp hs hw hn
  have ea := assert_tt
  have eb := assert_gt
  have ec := assert_gg
  have ed := assert_tg
  go_enter Tryd.func32, Tryd.ntmps32
  go_wp2_with (go_at_call 31; rw [HN.out]; refine (shaped_any _ _ _ _ HP.out).mono ?_; rw [HS.out]; rintro e w2 ⟨rfl, hb2⟩; rw [← HN.out]; have HB2 := Lib.hid hb2; clear hb2)
  have hpi : PI w w2.heap.size (printed (l.take 0)) (w2.alloc (.cells #[.slice none 0 0] 22)) := ⟨_, heap_alloc_new w2 _, Own.nil _ _ _ _, HB2.out.alloc HB2.out.size _, HB2.out.size⟩
  have HPI := Lib.hid hpi
  clear hpi
  go_loopw [18] (fun i wr => ∃ (k : Nat), k ≤ n ∧ i = .int .i64 k ∧ PI w w2.heap.size (printed (l.take k)) wr) (fun i _ => n - (intOf i).toNat)
  case atStart => exact ⟨0, Nat.zero_le _, rfl, HPI.out⟩
  case round =>
    obtain ⟨k, hk, rfl, hpi⟩ := hrel
    obtain ⟨g, hg⟩ : ∃ g, g = w2.heap.size := ⟨_, rfl⟩
    rw [← hg] at hpi ⊢
    have HGE := Lib.hid hg
    clear hg HPI
    have HPI := Lib.hid hpi
    by_cases hlt : k < n
    · have hkl : k < l.length := by have := HN.out; omega
      have hbw : Below w.heap.size w wr := by obtain ⟨v, _, _, h, _⟩ := hpi; exact h
      obtain ⟨g1, o1, At, ct, rfl, hc0w, hc1w, htx, -, -⟩ := piece_at HP.out (Same.refl _ _) hkl
      have hc0 := (hbw.cell (p := ⟨g1, o1 + k * 2, none⟩) (World.block_lt_of_cell? w _ hc0w)).trans hc0w
      have hc1 := (hbw.cell (p := ⟨g1, o1 + k * 2 + 1, none⟩) (World.block_lt_of_cell? w _ hc1w)).trans hc1w
      clear hc0w hc1w
      have hsh := shaped_at l false HS.out l[k] (List.getElem_mem hkl)
      have hsize := wt_take l k hkl
      have hpt := printed_take l k hkl
      have hpl2 := printed_len (l.take k)
      obtain ⟨p, hpe⟩ : ∃ p, p = l[k] := ⟨_, rfl⟩
      rw [← hpe] at hc0 hc1 htx hsh hsize hpt
      obtain ⟨done, hdone⟩ : ∃ done, done = printed (l.take k) := ⟨_, rfl⟩
      rw [← hdone] at hpt hpl2 hpi
      have hroom : done.length + 2 * p.text.length + 4 ≤ 17179869184 := by have := HW.out; omega
      have HTX := Lib.hid htx
      have HPT := Lib.hid hpt
      have HPI := Lib.hid hpi
      have HBW := Lib.hid hbw
      have HROOM := Lib.hid hroom
      clear hpe hdone hpl2 hsize hpi hpt htx hbw hroom
      obtain ⟨m, hm⟩ : ∃ m, m = p.text.length := ⟨_, rfl⟩
      have HM := Lib.hid hm
      have hm1 := HTX.out.len
      have hm2 := HTX.out.max
      rw [← hm] at hc1 hm1
      clear hm
      rcases hsh with h1 | ⟨h1, h2⟩
      · rw [h1] at hc0
        have HG := Lib.hid h1
        clear h1
        go_wp2_with (go_at_call 63; refine (of_text _ _ _ _).mono ?_; rintro e w3 ⟨rfl, hb3⟩; have hpi3 := (HPI.out.alloc _).below hb3; have HPI3 := Lib.hid hpi3; clear hpi3 hb3)
        go_loopw [43] (fun i wq => ∃ (j : Nat), j ≤ m ∧ i = .int .i64 j ∧ PI w g (done ++ (p.text.take j).flatMap escB) wq) (fun i _ => m - (intOf i).toNat)
        case atStart => exact ⟨0, Nat.zero_le _, rfl, by simpa using HPI3.out⟩
        case round =>
          obtain ⟨j, hj, rfl, hpj⟩ := hrel
          by_cases hjm : j < m
          · have hjl : j < p.text.length := by have := HM.out; omega
            have hbj : Below w.heap.size w wr := by obtain ⟨v, _, _, h, _⟩ := hpj; exact h
            obtain ⟨gt, ot, rfl, hgt, hbcw⟩ := HTX.out.byte hjl
            have hbc := (hbj.cell (p := ⟨gt, ot + j, none⟩) (World.block_lt_of_cell? w _ hbcw)).trans hbcw
            clear hbcw
            have hnx : (p.text.take (j + 1)).flatMap escB = (p.text.take j).flatMap escB ++ escB p.text[j] := by
              rw [List.take_succ_eq_append_getElem hjl, List.flatMap_append]; simp
            have hlen := escs_len (p.text.take j)
            rw [List.length_take] at hlen
            obtain ⟨b, hbe⟩ : ∃ b, b = p.text[j] := ⟨_, rfl⟩
            rw [← hbe] at hnx hbc
            obtain ⟨at_, hat⟩ : ∃ at_, at_ = done ++ (p.text.take j).flatMap escB := ⟨_, rfl⟩
            have hal : at_.length + 2 ≤ 17179869184 := by have := HROOM.out; rw [hat, List.length_append]; omega
            have hnx2 : done ++ (p.text.take (j + 1)).flatMap escB = at_ ++ escB b := by rw [hat, hnx, List.append_assoc]
            rw [← hat] at hpj
            have HNX := Lib.hid hnx2
            have HAL := Lib.hid hal
            have HPJ := Lib.hid hpj
            clear hnx hnx2 hlen hal hat hpj hbj hbe
            have hput : ∀ (s : List UInt8) (cs : Array Value) (n : Nat), s.length = n → cs.toList = bcells s → n ≤ 2 → Calls Tryd.prog 64 #[.slice (some ⟨wr.heap.size, 0, none⟩) n n, .pointer (some ⟨g, 0, none⟩)] (wr.alloc (.cells cs 5)) fun e w' => e = .returned (.tuple #[]) ∧ PI w g (at_ ++ s) w' :=
              fun s cs n h1 h2 h3 => HPJ.out.put s cs n h1 h2 (by have := HAL.out; omega)
            have HPUT := Lib.hid hput
            clear hput
            by_cases h38 : b.toNat = 38
            · rw [h38] at hbc
              have he : escB b = [92, 38] := by
                have e : b = 38 := by rw [← UInt8.toNat_inj]; exact h38
                subst e; rfl
              rw [he] at HNX
              clear h38 he
              have hpp := HPUT.out [92, 38] #[.int .u8 92, .int .u8 38] 2 rfl rfl (by omega)
              have HPP := Lib.hid hpp
              clear hpp HPUT
              go_wp2_with (go_at_call 64; refine HPP.out.mono ?_; rintro e w4 ⟨rfl, hp4⟩)
              go_roundw
              case rel => exact ⟨j + 1, by omega, by go_num, by rw [HNX.out]; exact hp4⟩
              case measure => simp [intOf]; omega
            · by_cases h92 : b.toNat = 92
              · rw [h92] at hbc
                have he : escB b = [92, 92] := by
                  have e : b = 92 := by rw [← UInt8.toNat_inj]; exact h92
                  subst e; rfl
                rw [he] at HNX
                clear h38 h92 he
                have hpp := HPUT.out [92, 92] #[.int .u8 92, .int .u8 92] 2 rfl rfl (by omega)
                have HPP := Lib.hid hpp
                clear hpp HPUT
                go_wp2_with (go_at_call 64; refine HPP.out.mono ?_; rintro e w4 ⟨rfl, hp4⟩)
                go_roundw
                case rel => exact ⟨j + 1, by omega, by go_num, by rw [HNX.out]; exact hp4⟩
                case measure => simp [intOf]; omega
              · by_cases h10 : b.toNat = 10
                · rw [h10] at hbc
                  have he : escB b = [92, 110] := by
                    have e : b = 10 := by rw [← UInt8.toNat_inj]; exact h10
                    subst e; rfl
                  rw [he] at HNX
                  clear h38 h92 h10 he
                  have hpp := HPUT.out [92, 110] #[.int .u8 92, .int .u8 110] 2 rfl rfl (by omega)
                  have HPP := Lib.hid hpp
                  clear hpp HPUT
                  go_wp2_with (go_at_call 64; refine HPP.out.mono ?_; rintro e w4 ⟨rfl, hp4⟩)
                  go_roundw
                  case rel => exact ⟨j + 1, by omega, by go_num, by rw [HNX.out]; exact hp4⟩
                  case measure => simp [intOf]; omega
                · have he : escB b = [b] := by unfold escB; rw [if_neg (by omega), if_neg h10]
                  rw [he] at HNX
                  have h1' : ((b.toNat : Int) == 38) = false := by rw [beq_eq_false_iff_ne]; omega
                  have h2' : ((b.toNat : Int) == 92) = false := by rw [beq_eq_false_iff_ne]; omega
                  have h3' : ((b.toNat : Int) == 10) = false := by rw [beq_eq_false_iff_ne]; omega
                  clear he
                  have hpp := HPUT.out [b] #[.int .u8 b.toNat] 1 rfl rfl (by omega)
                  have HPP := Lib.hid hpp
                  clear hpp HPUT
                  go_wp2_with (go_at_call 64; refine HPP.out.mono ?_; rintro e w4 ⟨rfl, hp4⟩)
                  go_roundw
                  case rel => exact ⟨j + 1, by omega, by go_num, by rw [HNX.out]; exact hp4⟩
                  case measure => simp [intOf]; omega
          · obtain rfl : j = m := by omega
            have hfin : done ++ (p.text.take j).flatMap escB = printed (l.take (k + 1)) := by
              rw [List.take_of_length_le (by have := HM.out; omega), HPT.out]
              simp [printOne, HG.out]
            rw [hfin] at hpj
            have HPJ := Lib.hid hpj
            clear hpj hfin
            go_wp2
            go_roundw
            case rel => exact ⟨k + 1, by omega, by go_num, HPJ.out⟩
            case measure => simp [intOf]; omega
      · obtain ⟨q, hq⟩ : ∃ q : Nat, p.group = q := ⟨p.group.toNat, by omega⟩
        have hq9 : q ≤ 9 := by omega
        rw [hq] at hc0
        have HG := Lib.hid hq
        clear h1 h2 hq
        by_cases hq0 : q = 0
        · subst hq0
          have hpr : printOne p = [38] := by simp [printOne, HG.out]
          rw [hpr] at HPT
          clear hpr
          go_wp2_with (first | (go_at_call 63; refine (of_group _ _ _ _ _ hq9).mono ?_; rintro e w3 ⟨rfl, hb3⟩; have hpi3 := (HPI.out.alloc _).below hb3; have HPI3 := Lib.hid hpi3; clear hpi3 hb3) | (go_at_call 64; refine (HPI3.out.put [38] #[.int .u8 38] 1 rfl rfl (by have := HROOM.out; omega)).mono ?_; rintro e w4 ⟨rfl, hp4⟩))
          go_roundw
          case rel => exact ⟨k + 1, by omega, by go_num, by rw [HPT.out]; exact hp4⟩
          case measure => simp [intOf]; omega
        · have hpr : printOne p = [92, UInt8.ofNat (48 + q)] := by
            unfold printOne
            rw [if_neg (by rw [HG.out]; omega), if_neg (by rw [HG.out]; omega), HG.out]; rfl
          rw [hpr] at HPT
          have hpb : (#[Value.int .u8 92, Value.int .u8 (48 + (q : Int))] : Array Value).toList = bcells [92, UInt8.ofNat (48 + q)] := by simp [bcells]; omega
          have HPB := Lib.hid hpb
          clear hpb
          have h0 : ((q : Int) == 0) = false := by rw [beq_eq_false_iff_ne]; omega
          have h8 : IntKind.u8.wrap (q : Int) = q := by simp [IntKind.wrap, IntKind.signed, IntKind.bits]; omega
          have h9 : IntKind.u8.wrap (48 + (q : Int)) = 48 + q := by simp [IntKind.wrap, IntKind.signed, IntKind.bits]; omega
          clear hpr
          go_wp2_with (first | (go_at_call 63; refine (of_group _ _ _ _ _ hq9).mono ?_; rintro e w3 ⟨rfl, hb3⟩; have hpi3 := (HPI.out.alloc _).below hb3; have HPI3 := Lib.hid hpi3; clear hpi3 hb3) | (go_at_call 64; refine (HPI3.out.put [92, UInt8.ofNat (48 + q)] #[.int .u8 92, .int .u8 (48 + (q : Int))] 2 rfl HPB.out (by have := HROOM.out; omega)).mono ?_; rintro e w4 ⟨rfl, hp4⟩))
          go_roundw
          case rel => exact ⟨k + 1, by omega, by go_num, by rw [HPT.out]; exact hp4⟩
          case measure => simp [intOf]; omega
    · obtain rfl : k = n := by omega
      rw [List.take_of_length_le (by have := HN.out; omega)] at hpi
      obtain ⟨v, hv1, hv2, hv3, hv4⟩ := hpi
      have hcg : wr.cell? ⟨g, 0, none⟩ = some v := cell_of_row wr g 0 #[v] _ (0, 0) hv1
      obtain ⟨A1, n1, c1, rfl, -, -, -⟩ := hv2.form
      have HV2 := Lib.hid hv2
      have HV3 := Lib.hid hv3
      clear hv1 hv2 hv3
      go_wp2
      go_ret2
      exact ⟨_, rfl, HV2.out, HV3.out⟩
end Go.Proofs.YtebbilkkacbfjaaDoor
