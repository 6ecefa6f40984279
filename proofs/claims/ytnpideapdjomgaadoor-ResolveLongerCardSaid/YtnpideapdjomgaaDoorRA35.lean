/- Texts that lead to the claim, one behind the other: Whether pieces are well shaped: the walks of fill.of and fill.Shaped. No conditions. -/
import Derived.Test.YtnpideapdjomgaaDoorProg
import Derived.Test.YtnpideapdjomgaaDoorRA5
import Derived.WalkKit
import Derived.WalkSpells
import Derived.Deep.QuietTactic
import Derived.BigQuiet
import Derived.Lib.Hide
import Derived.Deep.DeepMust
namespace Go.Proofs.YtnpideapdjomgaaDoor
open Go.RowKit

set_option maxHeartbeats 1000000 in
theorem of_text (At : Option Addr) (n c : Nat) (w : World) :
    Calls Tryd.prog 50 #[.agg #[.int .i64 (-1), .slice At n c]] w fun e w' => e = .returned (.iface 91 (.slice At n c)) ∧ Below w.heap.size w w' := by
  go_enter Tryd.func50, Tryd.ntmps50
  go_wp2
  go_ret
  exact ⟨rfl, (Below.refl _ w).alloc (Nat.le_refl _) _⟩
set_option maxHeartbeats 1000000 in
theorem of_group (g : Nat) (At : Option Addr) (n c : Nat) (w : World) (hg : g ≤ 9) :
    Calls Tryd.prog 50 #[.agg #[.int .i64 g, .slice At n c]] w fun e w' => e = .returned (.iface 92 (.int .i8 g)) ∧ Below w.heap.size w w' := by
  have h1 : ((g : Int) == -1) = false := by rw [beq_eq_false_iff_ne]; omega
  have h2 : IntKind.i8.wrap (g : Int) = g := by simp [IntKind.wrap, IntKind.signed, IntKind.bits]; omega
  have H2 := Lib.hid h2
  clear h2
  go_enter Tryd.func50, Tryd.ntmps50
  go_wp2
  go_ret
  exact ⟨by rw [← H2.out]; rfl, (Below.refl _ w).alloc (Nat.le_refl _) _⟩
set_option maxHeartbeats 1000000 in
theorem of_none (g : Int) (At : Option Addr) (n c : Nat) (w : World) (hg : g < -1 ∨ 9 < g) :
    Calls Tryd.prog 50 #[.agg #[.int .i64 g, .slice At n c]] w fun e w' => e = .returned .nilIface ∧ Below w.heap.size w w' := by
  have h1 : (g == -1) = false := by rw [beq_eq_false_iff_ne]; omega
  rcases hg with hg | hg
  · have h0 : ¬ 0 ≤ g := by omega
    go_enter Tryd.func50, Tryd.ntmps50
    go_wp2
    go_ret
    exact ⟨rfl, (Below.refl _ w).alloc (Nat.le_refl _) _⟩
  · have h0 : 0 ≤ g := by omega
    go_enter Tryd.func50, Tryd.ntmps50
    go_wp2
    go_ret
    exact ⟨rfl, (Below.refl _ w).alloc (Nat.le_refl _) _⟩

section
variable (W : World) (v : Value)
theorem zero_text : (zeroValue 91).run Tryd.prog W = .ok (.slice none 0 0) W := by kernel_rfl
theorem zero_group : (zeroValue 92).run Tryd.prog W = .ok (.int .i8 0) W := by kernel_rfl
theorem assert_tt : (Instr.typeAssert (.iface 91 v) 89 91 true).run Tryd.prog W = .ok (.tuple #[v, .bool true]) W := by
  simp [Instr.typeAssert, run_underlying Tryd.underlying91]
theorem assert_gg : (Instr.typeAssert (.iface 92 v) 89 92 true).run Tryd.prog W = .ok (.tuple #[v, .bool true]) W := by
  simp [Instr.typeAssert, run_underlying Tryd.underlying92]
theorem assert_gt : (Instr.typeAssert (.iface 92 v) 89 91 true).run Tryd.prog W = .ok (.tuple #[.slice none 0 0, .bool false]) W := by
  simp [Instr.typeAssert, run_underlying Tryd.underlying91]
theorem assert_tg : (Instr.typeAssert (.iface 91 v) 89 92 true).run Tryd.prog W = .ok (.tuple #[.int .i8 0, .bool false]) W := by
  simp [Instr.typeAssert, run_underlying Tryd.underlying92]
theorem assert_nt : (Instr.typeAssert .nilIface 89 91 true).run Tryd.prog W = .ok (.tuple #[.slice none 0 0, .bool false]) W := by
  simp [Instr.typeAssert, run_underlying Tryd.underlying91]
theorem assert_ng : (Instr.typeAssert .nilIface 89 92 true).run Tryd.prog W = .ok (.tuple #[.int .i8 0, .bool false]) W := by
  simp [Instr.typeAssert, run_underlying Tryd.underlying92]
end

/-- Shaped, from a state on: was the last one a text? -/
def shapedFrom : Bool → List Piece → Bool
  | _, [] => true
  | t, p :: r => if p.group = -1 then (p.text ≠ [] && !t) && shapedFrom true r else if 0 ≤ p.group ∧ p.group ≤ 9 then p.text = [] && shapedFrom false r else false
def shaped (l : List Piece) : Bool := shapedFrom false l
theorem shapedFrom_at (t : Bool) (l : List Piece) (k : Nat) (h : k < l.length) :
    shapedFrom t (l.drop k) = if l[k].group = -1 then (l[k].text ≠ [] && !t) && shapedFrom true (l.drop (k + 1)) else if 0 ≤ l[k].group ∧ l[k].group ≤ 9 then l[k].text = [] && shapedFrom false (l.drop (k + 1)) else false := by
  rw [List.drop_eq_getElem_cons h]; rfl

set_option maxRecDepth 100000 in
set_option maxHeartbeats 4000000 in
theorem shaped_any (A : Option Addr) (ca : Nat) (l : List Piece) (w : World) (hp : SliceAt Rep.piece w (under w.heap.size) A ca l) :
    Calls Tryd.prog 35 #[.slice A l.length ca] w fun e w' => e = .returned (.bool (shaped l)) ∧ Below w.heap.size w w' := by
  have HP := Lib.hid hp
  have hpl := hp.len
  have hpm := hp.max
  clear hp
  have ea := assert_tt
  have eb := assert_gt
  have ec := assert_gg
  have ed := assert_nt
  have ee := assert_ng
  go_enter Tryd.func35, Tryd.ntmps35
  go_wp2
  go_loopw [3, 11] (fun t i wr => ∃ (k : Nat) (tb : Bool), k ≤ l.length ∧ i = .int .i64 k ∧ t = .bool tb ∧ Below w.heap.size w wr ∧ shaped l = shapedFrom tb (l.drop k)) (fun _ i _ => l.length - (intOf i).toNat)
  case atStart => exact ⟨0, false, Nat.zero_le _, rfl, rfl, Below.refl _ _, rfl⟩
  case round =>
    obtain ⟨k, tb, hk, rfl, rfl, hbw, hsh⟩ := hrel
    have hz := hbw.size
    have HBW := Lib.hid hbw
    have HSH := Lib.hid hsh
    clear hsh
    by_cases hlt : k < l.length
    · obtain ⟨g, o, At, ct', rfl, hc0, hc1, htx, hwf, hwf'⟩ := piece_at HP.out (Same.of_below hbw fun _ h => h) hlt
      obtain ⟨p, hpe⟩ : ∃ p, p = l[k] := ⟨_, rfl⟩
      have hat := shapedFrom_at tb l k hlt
      rw [← hpe] at hc0 hc1 htx hwf hwf' hat
      have hat' : shaped l = _ := HSH.out.trans hat
      have HAT := Lib.hid hat'
      have htl := htx.len
      have htm := htx.max
      clear hat hat' hpe htx hbw
      obtain ⟨n, hn⟩ : ∃ n, n = p.text.length := ⟨_, rfl⟩
      have HN := Lib.hid hn
      rw [← hn] at hc1 htl
      clear hn
      have hBA : ∀ (w2 : World) (o : Obj), Below (wr.alloc o).heap.size (wr.alloc o) w2 → Below w.heap.size w w2 := fun w2 o hb => (HBW.out.alloc hz _).trans (hb.mono (by simp; omega))
      have HBA := Lib.hid hBA
      clear hBA
      by_cases h1 : p.group = -1
      · have h1' : (p.group == -1) = true := by rw [beq_iff_eq]; exact h1
        rw [h1] at hc0
        clear h1'
        by_cases h2 : p.text = [] ∨ tb = true
        · have hfalse : shaped l = false := by
            rw [HAT.out, if_pos h1]
            rcases h2 with h2 | h2 <;> simp [h2]
          have HF := Lib.hid hfalse
          have hcases : n = 0 ∨ (0 < n ∧ tb = true) := by
            have := HN.out
            rcases h2 with h2 | h2
            · left; rw [this, h2]; rfl
            · rcases Nat.eq_zero_or_pos n with h | h
              · exact .inl h
              · exact .inr ⟨h, h2⟩
          clear hfalse h2 h1
          rcases hcases with rfl | ⟨h3, rfl⟩
          · go_wp2_with (go_at_call 50; refine (of_text _ _ _ _).mono ?_; rintro e w2 ⟨rfl, hb2⟩)
            go_ret
            exact ⟨by rw [HF.out]; rfl, HBA.out _ _ hb2⟩
          · have h3' : (n == 0) = false := by rw [beq_eq_false_iff_ne]; omega
            have h3'' : ((n : Int) == 0) = false := by rw [beq_eq_false_iff_ne]; omega
            go_wp2_with (go_at_call 50; refine (of_text _ _ _ _).mono ?_; rintro e w2 ⟨rfl, hb2⟩)
            go_ret
            exact ⟨by rw [HF.out]; rfl, HBA.out _ _ hb2⟩
        · have htb : tb = false := by
            cases tb with
            | false => rfl
            | true => exact (h2 (.inr rfl)).elim
          subst htb
          have hnt : p.text ≠ [] := fun e => h2 (.inl e)
          have hat2 : shaped l = shapedFrom true (l.drop (k + 1)) := by rw [HAT.out, if_pos h1]; simp [hnt]
          have HAT2 := Lib.hid hat2
          have hn0 : 0 < n := by rw [HN.out]; exact List.length_pos_iff.2 hnt
          have h3'' : ((n : Int) == 0) = false := by rw [beq_eq_false_iff_ne]; omega
          clear hat2 hnt h2 h1
          go_wp2_with (go_at_call 50; refine (of_text _ _ _ _).mono ?_; rintro e w2 ⟨rfl, hb2⟩)
          go_roundw
          case rel => exact ⟨k + 1, true, by omega, by go_num, rfl, HBA.out _ _ hb2, HAT2.out⟩
          case measure => simp [intOf]; omega
      · by_cases h2 : 0 ≤ p.group ∧ p.group ≤ 9
        · obtain ⟨q, hq⟩ : ∃ q : Nat, p.group = q := ⟨p.group.toNat, by omega⟩
          have hq9 : q ≤ 9 := by omega
          rw [hq] at hc0 hwf hwf'
          by_cases h3 : p.text = []
          · have hn0 : n = 0 := by rw [HN.out, h3]; rfl
            subst hn0
            have hat2 : shaped l = shapedFrom false (l.drop (k + 1)) := by rw [HAT.out, if_neg h1, if_pos h2]; simp [h3]
            have HAT2 := Lib.hid hat2
            clear hat2 h1 h2 h3 hq
            go_wp2_with (go_at_call 50; refine (of_group _ _ _ _ _ hq9).mono ?_; rintro e w2 ⟨rfl, hb2⟩; have hcell := (hb2.cell (p := ⟨wr.heap.size, 1, none⟩) (by simp)); simp only [World.cell?_alloc_new] at hcell)
            go_roundw
            case rel => exact ⟨k + 1, false, by omega, by go_num, rfl, HBA.out _ _ hb2, HAT2.out⟩
            case measure => simp [intOf]; omega
          · have hfalse : shaped l = false := by rw [HAT.out, if_neg h1, if_pos h2]; simp [h3]
            have HF := Lib.hid hfalse
            have hn0 : 0 < n := by rw [HN.out]; exact List.length_pos_iff.2 h3
            have h3'' : ((n : Int) != 0) = true := by rw [bne_iff_ne]; omega
            clear hfalse h1 h2 h3 hq
            go_wp2_with (go_at_call 50; refine (of_group _ _ _ _ _ hq9).mono ?_; rintro e w2 ⟨rfl, hb2⟩; have hcell := (hb2.cell (p := ⟨wr.heap.size, 1, none⟩) (by simp)); simp only [World.cell?_alloc_new] at hcell)
            go_ret
            exact ⟨by rw [HF.out]; rfl, HBA.out _ _ hb2⟩
        · have hfalse : shaped l = false := by rw [HAT.out, if_neg h1, if_neg h2]
          have HF := Lib.hid hfalse
          have hq : p.group < -1 ∨ 9 < p.group := by omega
          have HQ := Lib.hid hq
          clear hfalse h1 h2 hq
          go_wp2_with (go_at_call 50; refine (of_none _ _ _ _ _ HQ.out).mono ?_; rintro e w2 ⟨rfl, hb2⟩)
          go_ret
          exact ⟨by rw [HF.out]; rfl, HBA.out _ _ hb2⟩
    · obtain rfl : k = l.length := by omega
      have hfin : shaped l = true := by rw [HSH.out, List.drop_length]; rfl
      have HF := Lib.hid hfin
      clear hfin
      go_wp2
      go_ret
      exact ⟨by rw [HF.out]; rfl, HBW.out⟩
end Go.Proofs.YtnpideapdjomgaaDoor
