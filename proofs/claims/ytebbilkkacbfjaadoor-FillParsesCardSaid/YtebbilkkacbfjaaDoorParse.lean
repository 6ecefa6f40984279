/- A replacement read: the walk of fill.Parse. Condition: at most 2^31 marks. -/
import Derived.Test.YtebbilkkacbfjaaDoorProg
import Derived.Test.YtebbilkkacbfjaaDoorAdd
import Derived.WalkKit
import Derived.WalkSpells
import Derived.Deep.QuietTactic
import Derived.BigQuiet
import Derived.Lib.Hide
import Derived.Deep.DeepMust
namespace Go.Proofs.YtebbilkkacbfjaaDoor
open Go.RowKit

def esc (p : List Piece) (y : Mark) : List Piece :=
  if y.plain = false ∧ 49 ≤ y.byte.toNat ∧ y.byte.toNat ≤ 57 then p ++ [⟨y.byte.toNat - 48, []⟩]
  else if y.plain = false ∧ y.byte.toNat = 110 then addB p 10 else addB p y.byte
def parseFrom : List Piece → List Mark → Option (List Piece)
  | p, [] => some p
  | p, [m] => if m.plain = true then some (addB p m.byte) else if m.byte.toNat = 38 then some (p ++ [⟨0, []⟩]) else if m.byte.toNat = 92 then none else some (addB p m.byte)
  | p, m :: y :: r => if m.plain = true then parseFrom (addB p m.byte) (y :: r) else if m.byte.toNat = 38 then parseFrom (p ++ [⟨0, []⟩]) (y :: r) else if m.byte.toNat = 92 then parseFrom (esc p y) r else parseFrom (addB p m.byte) (y :: r)
def parse (l : List Mark) : Option (List Piece) := parseFrom [] l

theorem parse_nil (p : List Piece) : parseFrom p [] = some p := by rw [parseFrom]
section
variable {p : List Piece} {l : List Mark} {k : Nat} (h : k < l.length)
include h
theorem parse_plain (hp : l[k].plain = true) : parseFrom p (l.drop k) = parseFrom (addB p l[k].byte) (l.drop (k + 1)) := by
  rw [List.drop_eq_getElem_cons h]
  cases l.drop (k + 1) <;> simp [parseFrom, hp]
theorem parse_amp (hp : l[k].plain = false) (hb : l[k].byte.toNat = 38) : parseFrom p (l.drop k) = parseFrom (p ++ [⟨0, []⟩]) (l.drop (k + 1)) := by
  rw [List.drop_eq_getElem_cons h]
  cases l.drop (k + 1) <;> simp [parseFrom, hp, hb]
theorem parse_other (hp : l[k].plain = false) (hb : l[k].byte.toNat ≠ 38) (hc : l[k].byte.toNat ≠ 92) : parseFrom p (l.drop k) = parseFrom (addB p l[k].byte) (l.drop (k + 1)) := by
  rw [List.drop_eq_getElem_cons h]
  cases l.drop (k + 1) <;> simp [parseFrom, hp, hb, hc]
theorem parse_end (hp : l[k].plain = false) (hc : l[k].byte.toNat = 92) (he : k + 1 = l.length) : parseFrom p (l.drop k) = none := by
  rw [List.drop_eq_getElem_cons h, List.drop_of_length_le (by omega)]
  simp [parseFrom, hp, hc]
theorem parse_esc (hp : l[k].plain = false) (hc : l[k].byte.toNat = 92) (he : k + 1 < l.length) : parseFrom p (l.drop k) = parseFrom (esc p l[k + 1]) (l.drop (k + 2)) := by
  rw [List.drop_eq_getElem_cons h, List.drop_eq_getElem_cons he]
  simp [parseFrom, hp, hc]
end

def Small (k : Nat) (p : List Piece) : Prop := p.length ≤ k ∧ ∀ q ∈ p, q.text.length ≤ k
theorem Small.push {k : Nat} {p : List Piece} (h : Small k p) (n m : Nat) (hk : k + 1 ≤ m) (g : Int) (t : List UInt8) (ht : t.length = n) (hn : n ≤ 1) : Small m (p ++ [⟨g, t⟩]) := by
  refine ⟨by have := h.1; simp; omega, fun q hq => ?_⟩
  rcases List.mem_append.1 hq with e | e
  · have := h.2 q e; omega
  · simp at e; subst e; simp; omega
theorem Small.add {k : Nat} {p : List Piece} (h : Small k p) (m : Nat) (hk : k + 1 ≤ m) (b : UInt8) : Small m (addB p b) := by
  rcases List.eq_nil_or_concat p with rfl | ⟨l0, q, rfl⟩
  · exact h.push 1 m hk _ _ rfl (by omega)
  · rw [List.concat_eq_append] at *
    by_cases hp : q.group = -1
    · rw [addB_yes _ _ _ hp]
      refine ⟨by have := h.1; simp at this ⊢; omega, fun x hx => ?_⟩
      rcases List.mem_append.1 hx with e | e
      · have := h.2 x (by simp [e]); omega
      · simp at e; subst e; have := h.2 q (by simp); simp; omega
    · rw [addB_no _ _ _ hp]
      exact h.push 1 m hk _ _ rfl (by omega)

theorem add_ten (v : Value) (l : List Piece) (w : World) (base : Nat) (hbase : base ≤ w.heap.size) (h : POwn w base v l) (hl : l.length < 1099511627776) (ht : ∀ p ∈ l, p.text.length < 1099511627776) :
    Calls Tryd.prog 38 #[v, .int .u8 10] w fun e w' => ∃ v', e = .returned v' ∧ POwn w' base v' (addB l 10) ∧ Below base w w' := add_any v l 10 w base hbase h hl ht

/-- What Parse answers. -/
def Parsed (w0 : World) (n : Nat) : Option (List Piece) → Ending → World → Prop
  | some p, e, w' => ∃ v, e = .returned (.tuple #[v, .int .i64 0, .int .i64 0]) ∧ POwn w' w0.heap.size v p
  | none, e, _ => e = .returned (.tuple #[.slice none 0 0, .int .i64 61, .int .i64 (n - 1)])

set_option maxRecDepth 100000 in
set_option maxHeartbeats 8000000 in
theorem parse_any (A : Option Addr) (c : Nat) (l : List Mark) (w : World) (hl : SliceAt Rep.mark w (under w.heap.size) A c l) (hb : l.length ≤ 4294967296) :
    Calls Tryd.prog 9 #[.slice A l.length c] w fun e w' => Parsed w l.length (parse l) e w' ∧ Below w.heap.size w w' := by
  have HL := Lib.hid hl
  have hlc := hl.len
  have hcm := hl.max
  clear hl
  go_enter Tryd.func9, Tryd.ntmps9
  go_wp2
  go_loopw [5, 6] (fun v i wr => ∃ (k : Nat) (p : List Piece), k ≤ l.length ∧ i = .int .i64 k ∧ POwn wr w.heap.size v p ∧ Below w.heap.size w wr ∧ Small k p ∧ parse l = parseFrom p (l.drop k)) (fun _ i _ => l.length - (intOf i).toNat)
  case atStart => exact ⟨0, [], Nat.zero_le _, rfl, POwn.nil _ _, Below.refl _ _, ⟨by simp, by simp⟩, rfl⟩
  case round =>
    obtain ⟨k, p, hk, rfl, hp, hbw, hsm, hpar⟩ := hrel
    have hz := hbw.size
    have HP := Lib.hid hp
    have HBW := Lib.hid hbw
    have HSM := Lib.hid hsm
    have HPAR := Lib.hid hpar
    have hpl : p.length ≤ k := hsm.1
    have HTL : Hid (∀ q ∈ p, q.text.length < 1099511627776) := fun q hq => by have := hsm.2 q hq; omega
    clear hp hsm hpar
    by_cases hlt : k < l.length
    · obtain ⟨g, o, rfl, hc0, hc1⟩ := mark_at HL.out (Same.of_below hbw fun _ h => h) hlt
      clear hbw
      have HBA : Hid (∀ o : Obj, Below w.heap.size w (wr.alloc o)) := fun o => HBW.out.alloc hz o
      by_cases h1 : l[k].plain = true
      · have hnext := parse_plain (p := p) hlt h1
        have HN := Lib.hid hnext
        clear hnext
        go_wp2_with (go_at_call 38; refine (add_any _ _ _ _ w.heap.size (by simp; omega) (HP.out.far ((Below.refl _ _).alloc (Nat.le_refl _) _)) (by omega) HTL.out).mono ?_; rintro e w2 ⟨v2, rfl, hp2, hb2⟩)
        go_roundw
        case rel => exact ⟨k + 1, _, by omega, by go_num, hp2, (HBA.out _).trans hb2, HSM.out.add _ (by omega) _, HPAR.out.trans HN.out⟩
        case measure => simp [intOf]; omega
      · have h1f : l[k].plain = false := by simpa using h1
        rw [h1f] at hc1
        by_cases h38 : l[k].byte.toNat = 38
        · have hnext := parse_amp (p := p) hlt h1f h38
          have HN := Lib.hid hnext
          rw [h38] at hc0
          clear hnext h1 h1f h38
          have hbl : Below wr.heap.size wr ((wr.alloc (.cells #[.int .u8 38, .bool false] 34)).alloc (.cells #[.int .i64 0, .slice none 0 0] 81)) := ((Below.refl _ wr).alloc (Nat.le_refl _) _).alloc (by simp) _
          have HBL := Lib.hid hbl
          clear hbl
          go_wp2_with (at_builtin; refine wpList_append_piece rfl (.tmp 33) (.tmp 35) rfl wr w.heap.size _ (.slice none 0 0) _ ⟨0, []⟩ rfl HP.out HBL.out rfl (Own.nil _ _ _ _) (fun k hk => by simp [Value.ownBlock] at hk) _ _ rfl (by simp) (by simp) (by simp; omega) (by omega) ?_; intro v2 w2 hp2 hb2)
          go_roundw
          case rel => exact ⟨k + 1, _, by omega, by go_num, hp2, (HBW.out.trans (HBL.out.mono hz)).trans hb2, HSM.out.push 0 _ (by omega) _ _ rfl (by omega), HPAR.out.trans HN.out⟩
          case measure => simp [intOf]; omega
        · by_cases h92 : l[k].byte.toNat = 92
          · rw [h92] at hc0
            by_cases hend : k + 1 = l.length
            · have hnone : parse l = none := HPAR.out.trans (parse_end (p := p) hlt h1f h92 hend)
              have HN := Lib.hid hnone
              have he : ((k : Int) + 1 == (l.length : Int)) = true := by rw [beq_iff_eq]; omega
              have hk1 : (k : Int) = (l.length : Int) - 1 := by omega
              have HK1 := Lib.hid hk1
              clear hnone h1 h1f h38 h92 hend hk1
              go_wp2
              go_ret3
              refine ⟨?_, HBA.out _⟩
              rw [HN.out]
              show _ = _
              rw [← HK1.out]
              rfl
            · have hk1 : k + 1 < l.length := by omega
              have hnext := parse_esc (p := p) hlt h1f h92 hk1
              obtain ⟨g', o', he', hd0, hd1⟩ := mark_at HL.out (Same.of_below HBW.out fun _ h => h) hk1
              simp only [Option.some.injEq, Addr.mk.injEq] at he'
              obtain ⟨rfl, rfl, -⟩ := he'
              have he : ((k : Int) + 1 == (l.length : Int)) = false := by rw [beq_eq_false_iff_ne]; omega
              have hgl : g < wr.heap.size := World.block_lt_of_cell? wr _ hc0
              have HN := Lib.hid hnext
              clear hnext h1 h1f h38 h92 hend
              obtain ⟨y, hy⟩ : ∃ y, y = l[k + 1] := ⟨_, rfl⟩
              rw [← hy] at hd0 hd1 HN
              have HY := Lib.hid hy
              clear hy
              by_cases hdig : y.plain = false ∧ 49 ≤ y.byte.toNat ∧ y.byte.toNat ≤ 57
              · have hesc : esc p y = p ++ [⟨y.byte.toNat - 48, []⟩] := if_pos hdig
                rw [hesc] at HN
                obtain ⟨hq1, hq2, hq3⟩ := hdig
                rw [hq1] at hd1
                clear hesc hq1
                have hq4 : (49 : Int) ≤ y.byte.toNat := by omega
                have hq5 : (y.byte.toNat : Int) ≤ 57 := by omega
                have hbl : Below wr.heap.size wr ((wr.alloc (.cells #[.int .u8 y.byte.toNat, .bool false] 34)).alloc (.cells #[.int .i64 (y.byte.toNat - 48), .slice none 0 0] 81)) := ((Below.refl _ wr).alloc (Nat.le_refl _) _).alloc (by simp) _
                have HBL := Lib.hid hbl
                clear hbl
                go_wp2_with (at_builtin; refine wpList_append_piece rfl (.tmp 71) (.tmp 77) rfl wr w.heap.size _ (.slice none 0 0) _ ⟨y.byte.toNat - 48, []⟩ rfl HP.out HBL.out (WalkArith.wf_i64 (by constructor <;> (simp; omega))) (Own.nil _ _ _ _) (fun k hk => by simp [Value.ownBlock] at hk) _ _ rfl (by simp) (by simp) (by simp; omega) (by omega) ?_; intro v2 w2 hp2 hb2)
                go_roundw
                case rel => exact ⟨k + 2, _, by omega, by go_num, hp2, (HBW.out.trans (HBL.out.mono hz)).trans hb2, HSM.out.push 0 _ (by omega) _ _ rfl (by omega), HPAR.out.trans HN.out⟩
                case measure => simp [intOf]; omega
              · by_cases hpl' : y.plain = true
                · have hesc : esc p y = addB p y.byte := by unfold esc; rw [if_neg (by simp [hpl']), if_neg (by simp [hpl'])]
                  rw [hesc] at HN
                  rw [hpl'] at hd1
                  clear hesc hpl' hdig
                  go_wp2_with (go_at_call 38; refine (add_any _ _ _ _ w.heap.size (by simp; omega) (HP.out.far ((Below.refl _ _).alloc (Nat.le_refl _) _)) (by omega) HTL.out).mono ?_; rintro e w2 ⟨v2, rfl, hp2, hb2⟩)
                  go_roundw
                  case rel => exact ⟨k + 2, _, by omega, by go_num, hp2, (HBA.out _).trans hb2, HSM.out.add _ (by omega) _, HPAR.out.trans HN.out⟩
                  case measure => simp [intOf]; omega
                · have hpf : y.plain = false := by simpa using hpl'
                  rw [hpf] at hd1
                  by_cases h110 : y.byte.toNat = 110
                  · have hesc : esc p y = addB p 10 := by unfold esc; rw [if_neg hdig, if_pos ⟨hpf, h110⟩]
                    rw [hesc] at HN
                    rw [h110] at hd0
                    clear hesc hpl' hpf hdig h110
                    go_wp2_with (go_at_call 38; refine (add_ten _ _ _ w.heap.size (by simp; omega) (HP.out.far ((Below.refl _ _).alloc (Nat.le_refl _) _)) (by omega) HTL.out).mono ?_; rintro e w2 ⟨v2, rfl, hp2, hb2⟩)
                    go_roundw
                    case rel => exact ⟨k + 2, _, by omega, by go_num, hp2, (HBA.out _).trans hb2, HSM.out.add _ (by omega) _, HPAR.out.trans HN.out⟩
                    case measure => simp [intOf]; omega
                  · have hesc : esc p y = addB p y.byte := by unfold esc; rw [if_neg hdig, if_neg (fun e => h110 e.2)]
                    rw [hesc] at HN
                    have h110' : ((y.byte.toNat : Int) == 110) = false := by rw [beq_eq_false_iff_ne]; omega
                    by_cases hlo : 49 ≤ y.byte.toNat
                    · have hhi : 57 < y.byte.toNat := by
                        rcases Nat.lt_or_ge 57 y.byte.toNat with h | h
                        · exact h
                        · exact (hdig ⟨hpf, hlo, h⟩).elim
                      have hlo' : (49 : Int) ≤ y.byte.toNat := by omega
                      have hhi' : (57 : Int) < y.byte.toNat := by omega
                      clear hesc hpl' hpf hdig h110
                      go_wp2_with (go_at_call 38; refine (add_any _ _ _ _ w.heap.size (by simp; omega) (HP.out.far ((Below.refl _ _).alloc (Nat.le_refl _) _)) (by omega) HTL.out).mono ?_; rintro e w2 ⟨v2, rfl, hp2, hb2⟩)
                      go_roundw
                      case rel => exact ⟨k + 2, _, by omega, by go_num, hp2, (HBA.out _).trans hb2, HSM.out.add _ (by omega) _, HPAR.out.trans HN.out⟩
                      case measure => simp [intOf]; omega
                    · have hlo' : (y.byte.toNat : Int) < 49 := by omega
                      clear hesc hpl' hpf hdig h110
                      go_wp2_with (go_at_call 38; refine (add_any _ _ _ _ w.heap.size (by simp; omega) (HP.out.far ((Below.refl _ _).alloc (Nat.le_refl _) _)) (by omega) HTL.out).mono ?_; rintro e w2 ⟨v2, rfl, hp2, hb2⟩)
                      go_roundw
                      case rel => exact ⟨k + 2, _, by omega, by go_num, hp2, (HBA.out _).trans hb2, HSM.out.add _ (by omega) _, HPAR.out.trans HN.out⟩
                      case measure => simp [intOf]; omega
          · have hnext := parse_other (p := p) hlt h1f h38 h92
            have h38' : ((l[k].byte.toNat : Int) == 38) = false := by rw [beq_eq_false_iff_ne]; omega
            have h92' : ((l[k].byte.toNat : Int) == 92) = false := by rw [beq_eq_false_iff_ne]; omega
            have HN := Lib.hid hnext
            clear hnext h1 h1f h38 h92
            go_wp2_with (go_at_call 38; refine (add_any _ _ _ _ w.heap.size (by simp; omega) (HP.out.far ((Below.refl _ _).alloc (Nat.le_refl _) _)) (by omega) HTL.out).mono ?_; rintro e w2 ⟨v2, rfl, hp2, hb2⟩)
            go_roundw
            case rel => exact ⟨k + 1, _, by omega, by go_num, hp2, (HBA.out _).trans hb2, HSM.out.add _ (by omega) _, HPAR.out.trans HN.out⟩
            case measure => simp [intOf]; omega
    · obtain rfl : k = l.length := by omega
      have hfin : parse l = some p := by rw [HPAR.out, List.drop_length, parse_nil]
      have HF := Lib.hid hfin
      clear hfin
      go_wp2
      go_ret3
      exact ⟨by rw [HF.out]; exact ⟨_, rfl, HP.out⟩, HBW.out⟩
end Go.Proofs.YtebbilkkacbfjaaDoor
