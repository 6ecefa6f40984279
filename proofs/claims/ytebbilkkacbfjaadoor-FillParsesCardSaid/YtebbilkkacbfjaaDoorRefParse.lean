/- The document's answer to a replacement read: the walks of galleyref16.with and galleyref16.Parse (printed by gen/refparse.py out of XAdd and XParse). Condition: at most 2^31 marks. -/
import Derived.Test.YtebbilkkacbfjaaDoorParse
namespace Go.Proofs.YtebbilkkacbfjaaDoor
open Go.RowKit

theorem cell_new2 (w : World) (o1 o2 : Obj) (cs : Array Value) (t : TypeId) (k : Nat) (u : Value) (h : cs[k]? = some u) : (((w.alloc o1).alloc o2).alloc (.cells cs t)).cell? ⟨w.heap.size + 1 + 1, k, none⟩ = some u := by
  have := cell_of_row _ ((w.alloc o1).alloc o2).heap.size k cs t (0, 0) (heap_alloc_new ((w.alloc o1).alloc o2) _)
  rw [h] at this
  simpa using this
set_option maxHeartbeats 1000000 in
theorem with_yes (v : Value) (l : List Piece) (p : Piece) (b : UInt8) (w : World) (base : Nat) (hbase : base ≤ w.heap.size) (h : POwn w base v (l ++ [p])) (hp : p.group = -1) (hl : l.length < 1099511627776) (ht : p.text.length < 1099511627776) :
    Calls Tryd.prog 39 #[v, .int .u8 b.toNat] w fun e w' => ∃ v', e = .returned v' ∧ POwn w' base v' (addB (l ++ [p]) b) ∧ Below base w w' := by
  obtain ⟨g, cap, tv, rfl, hbg, hc0, hc1, hfz, hgl, hown, hne, hshut⟩ := h.last
  obtain ⟨A, n, c, e, hn, hle, hmax⟩ := h.form
  have hle' : l.length + 1 ≤ cap := by have := hn.out; simp at e this; omega
  have hmax' : cap ≤ 9223372036854775807 := by simp at e; omega
  clear e hle hmax hn
  rw [hp] at hc0
  have hpos : ((l.length : Nat) : Int) + 1 - 1 = l.length := by omega
  have hown' := hown.alloc (.cells #[.int .u8 b.toNat] 5)
  have HOWN := Lib.hid hown'
  have HS := Lib.hid hshut
  have HP := Lib.hid hp
  have HO := Lib.hid hown
  have hne' : (some g : Option Nat) ≠ tv.ownBlock := by
    intro e
    rcases hne with h | h
    · rw [h] at e; cases e
    · exact h e.symm
  have HNE := Lib.hid hne'
  clear hown hown' hshut hp h hpos hne hne'
  go_enter Tryd.func39, Tryd.ntmps39
  go_wp2_with (at_builtin; go_must (refine wpList_append_bytes _ rfl (.tmp 27) (.tmp 29) 58 rfl base 5 stBytes _ _ rfl HOWN.out _ _ _ _ [b] rfl (SliceAt.newBytes _ _ _ [b] 1 (by simp) (by simp [maxLen]) rfl) rfl (by omega) (by simp; omega) ?_); intro v1 w1 hown1 hg1 hat1; obtain ⟨A1, n1, c1, rfl, hn1, -, -⟩ := hown1.form; have hkeep : w1.heap[g]? = w.heap[g]? := (hg1.block g (by simp; omega) HNE.out).trans (Below.heap_alloc _ _ _ hgl); have hc1' : w1.cell? ⟨g, l.length * 2 + 1, none⟩ = some tv := (World.cell?_of_block hkeep).trans hc1; have hfz' : w1.frozen? ⟨g, l.length * 2 + 1, none⟩ = false := (World.frozen?_of_block hkeep).trans hfz; have HK := Lib.hid hkeep; have HG1 := Lib.hid hg1; have HO1 := Lib.hid hown1; have HA1 := Lib.hid hat1; clear hkeep hg1 hown1 hat1)
  go_ret
  have hw1 : w.grownBy w1 tv.ownBlock := by
    obtain ⟨a, b, c, d, e⟩ := HG1.out
    exact ⟨a, b, c, Nat.le_trans (by simp) d, fun k hk hne => (e k (by simp; omega) hne).trans (Below.heap_alloc _ _ _ hk)⟩
  refine ⟨_, rfl, ?_, ?_⟩
  · rw [addB_yes _ _ _ HP.out]
    refine HS.out w1 _ _ hw1 HO1.out ?_
    rcases HA1.out with h | h
    · exact .inl h
    · exact .inr (.inr ⟨_, h, by simp⟩)
  · exact (below_own ((Below.refl _ w).alloc hbase _) HOWN.out HG1.out (by simp; omega)).setCell hbg _


set_option maxHeartbeats 1000000 in
theorem with_no (v : Value) (l : List Piece) (b : UInt8) (w : World) (base : Nat) (hbase : base ≤ w.heap.size) (h : POwn w base v l) (hp : ∀ l0 p, l = l0 ++ [p] → p.group ≠ -1) (hl : l.length < 1099511627776) :
    Calls Tryd.prog 39 #[v, .int .u8 b.toNat] w fun e w' => ∃ v', e = .returned v' ∧ POwn w' base v' (l ++ [⟨-1, [b]⟩]) ∧ Below base w w' := by
  have H := Lib.hid h
  have hnt : Own Rep.byte 5 ((w.alloc (.cells #[.int .u8 b.toNat] 5)).alloc (.cells #[.int .i64 (-1), .slice (some ⟨w.heap.size, 0, none⟩) 1 1] 81)) base nob (.slice (some ⟨w.heap.size, 0, none⟩) 1 1) [b] :=
    (newText w 5 base hbase #[.int .u8 b.toNat] [b] rfl (by simp [maxLen])).alloc _
  have HNT := Lib.hid hnt
  have hbl : Below w.heap.size w ((w.alloc (.cells #[.int .u8 b.toNat] 5)).alloc (.cells #[.int .i64 (-1), .slice (some ⟨w.heap.size, 0, none⟩) 1 1] 81)) := ((Below.refl _ w).alloc (Nat.le_refl _) _).alloc (by simp) _
  have HBL := Lib.hid hbl
  clear hnt hbl
  rcases List.eq_nil_or_concat l with rfl | ⟨l0, p, rfl⟩
  · obtain ⟨A, n, c, rfl, hn, -, -⟩ := h.form
    obtain rfl : n = 0 := hn.out
    clear h hn
    go_enter Tryd.func39, Tryd.ntmps39
    go_wp2_with (at_builtin; refine wpList_append_piece rfl (.tmp 34) (.tmp 38) rfl w base _ (.slice (some ⟨w.heap.size, 0, none⟩) 1 1) [] ⟨-1, [b]⟩ rfl H.out HBL.out rfl HNT.out (fun k hk => by simp [Value.ownBlock] at hk; omega) _ _ rfl (by simp) (by simp) (by simp; omega) (by simp) ?_; intro v1 w1 hp1 hb1; have HP1 := Lib.hid hp1; have HB1 := Lib.hid hb1; obtain ⟨A1, n1, c1, rfl, -, -, -⟩ := hp1.form; clear hp1 hb1)
    go_ret
    exact ⟨_, rfl, HP1.out, (HBL.out.mono hbase).trans HB1.out⟩
  · have hg := hp l0 p (by simp)
    obtain ⟨g, cap, tv, rfl, hbg, hc0, -, -, hgl, -⟩ := (show POwn w base v (l0 ++ [p]) by simpa using h).last
    obtain ⟨A, n, c, e, hn, hle, hmax⟩ := h.form
    have hle' : l0.length + 1 ≤ cap := by have := hn.out; simp at e this; omega
    have hmax' : cap ≤ 9223372036854775807 := by simp at e; omega
    have hl' : l0.length < 1099511627776 := by simp at hl; omega
    have h1 : (p.group == -1) = false := by simpa using hg
    have HL := Lib.hid hl
    clear h e hle hp hg hl hn
    go_enter Tryd.func39, Tryd.ntmps39
    go_wp2_with (at_builtin; refine wpList_append_piece rfl (.tmp 34) (.tmp 38) rfl w base _ (.slice (some ⟨w.heap.size, 0, none⟩) 1 1) _ ⟨-1, [b]⟩ rfl H.out HBL.out rfl HNT.out (fun k hk => by simp [Value.ownBlock] at hk; omega) _ _ rfl (by simp) (by simp) (by simp; omega) HL.out ?_; intro v1 w1 hp1 hb1; have HP1 := Lib.hid hp1; have HB1 := Lib.hid hb1; obtain ⟨A1, n1, c1, rfl, -, -, -⟩ := hp1.form; clear hp1 hb1)
    go_ret
    exact ⟨_, rfl, HP1.out, (HBL.out.mono hbase).trans HB1.out⟩


theorem with_any (v : Value) (l : List Piece) (b : UInt8) (w : World) (base : Nat) (hbase : base ≤ w.heap.size) (h : POwn w base v l) (hl : l.length < 1099511627776) (ht : ∀ p ∈ l, p.text.length < 1099511627776) :
    Calls Tryd.prog 39 #[v, .int .u8 b.toNat] w fun e w' => ∃ v', e = .returned v' ∧ POwn w' base v' (addB l b) ∧ Below base w w' := by
  rcases List.eq_nil_or_concat l with rfl | ⟨l0, p, rfl⟩
  · exact with_no v [] b w base hbase h (fun l0 p e => by simp at e) hl
  · rw [List.concat_eq_append] at *
    by_cases hp : p.group = -1
    · exact with_yes v l0 p b w base hbase h hp (by simp at hl; omega) (ht p (by simp))
    · rw [addB_no _ _ _ hp]
      exact with_no v _ b w base hbase h (fun l1 q e => by have := List.append_inj_right' e rfl; simp at this; rw [← this]; exact hp) hl


theorem with_ten (v : Value) (l : List Piece) (w : World) (base : Nat) (hbase : base ≤ w.heap.size) (h : POwn w base v l) (hl : l.length < 1099511627776) (ht : ∀ p ∈ l, p.text.length < 1099511627776) :
    Calls Tryd.prog 39 #[v, .int .u8 10] w fun e w' => ∃ v', e = .returned v' ∧ POwn w' base v' (addB l 10) ∧ Below base w w' := with_any v l 10 w base hbase h hl ht


set_option maxRecDepth 100000 in
set_option maxHeartbeats 8000000 in
theorem refParse_any (A : Option Addr) (c : Nat) (l : List Mark) (w : World) (hl : SliceAt Rep.mark w (under w.heap.size) A c l) (hb : l.length ≤ 4294967296) :
    Calls Tryd.prog 10 #[.slice A l.length c] w fun e w' => Parsed w l.length (parse l) e w' ∧ Below w.heap.size w w' := by
  have HL := Lib.hid hl
  have hlc := hl.len
  have hcm := hl.max
  clear hl
  go_enter Tryd.func10, Tryd.ntmps10
  go_wp2
  go_loopw [5, 6] (fun v i wr => ∃ (k : Nat) (p : List Piece), k ≤ l.length ∧ i = .int .i64 k ∧ POwn wr w.heap.size v p ∧ Below w.heap.size w wr ∧ Small k p ∧ parse l = parseFrom p (l.drop k)) (fun _ i _ => l.length - (intOf i).toNat)
  case atStart => exact ⟨0, [], Nat.zero_le _, rfl, POwn.nil _ _, Below.refl _ _, ⟨by simp, by simp⟩, rfl⟩
  case round =>
    obtain ⟨k, p, hk, rfl, hp, hbw, hsm, hpar⟩ := hrel
    have hz := hbw.size
    have HP := Lib.hid hp
    have HBW := Lib.hid hbw
    have HSM := Lib.hid hsm
    have HPAR := Lib.hid hpar
    have hpl : p.length ≤ k := hsm.1
    have HTL : Hid (∀ q ∈ p, q.text.length < 1099511627776) := fun q hq => by have := hsm.2 q hq; omega
    clear hp hsm hpar
    by_cases hlt : k < l.length
    · obtain ⟨g, o, rfl, hc0, hc1⟩ := mark_at HL.out (Same.of_below hbw fun _ h => h) hlt
      clear hbw
      have HBA : Hid (∀ o : Obj, Below w.heap.size w (wr.alloc o)) := fun o => HBW.out.alloc hz o
      have HBA2 : Hid (∀ o o2 : Obj, Below w.heap.size w ((wr.alloc o).alloc o2)) := fun o o2 => (HBW.out.alloc hz o).alloc (by simp; omega) o2
      by_cases h1 : l[k].plain = true
      · have hnext := parse_plain (p := p) hlt h1
        have HN := Lib.hid hnext
        clear hnext
        go_wp2_with (go_at_call 39; refine (with_any _ _ _ _ w.heap.size (by simp; omega) (HP.out.far ((Below.refl _ _).alloc (Nat.le_refl _) _)) (by omega) HTL.out).mono ?_; rintro e w2 ⟨v2, rfl, hp2, hb2⟩)
        go_roundw
        case rel => exact ⟨k + 1, _, by omega, by go_num, hp2, (HBA.out _).trans hb2, HSM.out.add _ (by omega) _, HPAR.out.trans HN.out⟩
        case measure => simp [intOf]; omega
      · have h1f : l[k].plain = false := by simpa using h1
        rw [h1f] at hc1
        by_cases h38 : l[k].byte.toNat = 38
        · have hnext := parse_amp (p := p) hlt h1f h38
          have HN := Lib.hid hnext
          rw [h38] at hc0
          clear hnext h1 h1f h38
          have hbl : Below wr.heap.size wr ((wr.alloc (.cells #[.int .u8 38, .bool false] 34)).alloc (.cells #[.int .i64 0, .slice none 0 0] 81)) := ((Below.refl _ wr).alloc (Nat.le_refl _) _).alloc (by simp) _
          have HBL := Lib.hid hbl
          clear hbl
          go_wp2_with (at_builtin; go_must (refine wpList_append_piece rfl (.tmp 38) (.tmp 40) rfl wr w.heap.size _ (.slice none 0 0) _ ⟨0, []⟩ rfl HP.out HBL.out rfl (Own.nil _ _ _ _) (fun k hk => by simp [Value.ownBlock] at hk) _ _ rfl (by simp) (by simp) (by simp; omega) (by omega) ?_); intro v2 w2 hp2 hb2)
          go_roundw
          case rel => exact ⟨k + 1, _, by omega, by go_num, hp2, (HBW.out.trans (HBL.out.mono hz)).trans hb2, HSM.out.push 0 _ (by omega) _ _ rfl (by omega), HPAR.out.trans HN.out⟩
          case measure => simp [intOf]; omega
        · by_cases h92 : l[k].byte.toNat = 92
          · rw [h92] at hc0
            by_cases hend : k + 1 = l.length
            · have hnone : parse l = none := HPAR.out.trans (parse_end (p := p) hlt h1f h92 hend)
              have HN := Lib.hid hnone
              have he : ((k : Int) + 1 == (l.length : Int)) = true := by rw [beq_iff_eq]; omega
              have hk1 : (k : Int) = (l.length : Int) - 1 := by omega
              have HK1 := Lib.hid hk1
              clear hnone h1 h1f h38 h92 hend hk1
              go_wp2
              go_ret3
              refine ⟨?_, HBA.out _⟩
              rw [HN.out]
              show _ = _
              rw [← HK1.out]
              rfl
            · have hk1 : k + 1 < l.length := by omega
              have hnext := parse_esc (p := p) hlt h1f h92 hk1
              obtain ⟨g', o', he', hd0, hd1⟩ := mark_at HL.out (Same.of_below HBW.out fun _ h => h) hk1
              simp only [Option.some.injEq, Addr.mk.injEq] at he'
              obtain ⟨rfl, rfl, -⟩ := he'
              have he : ((k : Int) + 1 == (l.length : Int)) = false := by rw [beq_eq_false_iff_ne]; omega
              have hgl : g < wr.heap.size := World.block_lt_of_cell? wr _ hc0
              have HN := Lib.hid hnext
              clear hnext h1 h1f h38 h92 hend
              obtain ⟨y, hy⟩ : ∃ y, y = l[k + 1] := ⟨_, rfl⟩
              rw [← hy] at hd0 hd1 HN
              have HY := Lib.hid hy
              clear hy
              by_cases hdig : y.plain = false ∧ 49 ≤ y.byte.toNat ∧ y.byte.toNat ≤ 57
              · have hesc : esc p y = p ++ [⟨y.byte.toNat - 48, []⟩] := if_pos hdig
                rw [hesc] at HN
                obtain ⟨hq1, hq2, hq3⟩ := hdig
                rw [hq1] at hd1
                clear hesc hq1
                have hq4 : (49 : Int) ≤ y.byte.toNat := by omega
                have hq5 : (y.byte.toNat : Int) ≤ 57 := by omega
                have hbl : Below wr.heap.size wr (((wr.alloc (.cells #[.int .u8 92, .bool false] 34)).alloc (.cells #[.int .u8 y.byte.toNat, .bool false] 34)).alloc (.cells #[.int .i64 (y.byte.toNat - 48), .slice none 0 0] 81)) := (((Below.refl _ wr).alloc (Nat.le_refl _) _).alloc (by simp) _).alloc (by simp; omega) _
                have HBL := Lib.hid hbl
                clear hbl
                go_wp2_with (at_builtin; go_must (refine wpList_append_piece rfl (.tmp 72) (.tmp 78) rfl wr w.heap.size _ (.slice none 0 0) _ ⟨y.byte.toNat - 48, []⟩ rfl HP.out HBL.out (WalkArith.wf_i64 (by constructor <;> (simp; omega))) (Own.nil _ _ _ _) (fun k hk => by simp [Value.ownBlock] at hk) _ _ rfl (cell_new2 wr _ _ _ _ 0 _ rfl) (cell_new2 wr _ _ _ _ 1 _ rfl) (by simp; omega) (by omega) ?_); intro v2 w2 hp2 hb2)
                go_roundw
                case rel => exact ⟨k + 2, _, by omega, by go_num, hp2, (HBW.out.trans (HBL.out.mono hz)).trans hb2, HSM.out.push 0 _ (by omega) _ _ rfl (by omega), HPAR.out.trans HN.out⟩
                case measure => simp [intOf]; omega
              · by_cases hpl' : y.plain = true
                · have hesc : esc p y = addB p y.byte := by unfold esc; rw [if_neg (by simp [hpl']), if_neg (by simp [hpl'])]
                  rw [hesc] at HN
                  rw [hpl'] at hd1
                  clear hesc hpl' hdig
                  go_wp2_with (go_at_call 39; refine (with_any _ _ _ _ w.heap.size (by simp; omega) (HP.out.far (((Below.refl _ _).alloc (Nat.le_refl _) _).alloc (by simp) _)) (by omega) HTL.out).mono ?_; rintro e w2 ⟨v2, rfl, hp2, hb2⟩)
                  go_roundw
                  case rel => exact ⟨k + 2, _, by omega, by go_num, hp2, (HBA2.out _ _).trans hb2, HSM.out.add _ (by omega) _, HPAR.out.trans HN.out⟩
                  case measure => simp [intOf]; omega
                · have hpf : y.plain = false := by simpa using hpl'
                  rw [hpf] at hd1
                  by_cases h110 : y.byte.toNat = 110
                  · have hesc : esc p y = addB p 10 := by unfold esc; rw [if_neg hdig, if_pos ⟨hpf, h110⟩]
                    rw [hesc] at HN
                    rw [h110] at hd0
                    clear hesc hpl' hpf hdig h110
                    go_wp2_with (go_at_call 39; refine (with_ten _ _ _ w.heap.size (by simp; omega) (HP.out.far (((Below.refl _ _).alloc (Nat.le_refl _) _).alloc (by simp) _)) (by omega) HTL.out).mono ?_; rintro e w2 ⟨v2, rfl, hp2, hb2⟩)
                    go_roundw
                    case rel => exact ⟨k + 2, _, by omega, by go_num, hp2, (HBA2.out _ _).trans hb2, HSM.out.add _ (by omega) _, HPAR.out.trans HN.out⟩
                    case measure => simp [intOf]; omega
                  · have hesc : esc p y = addB p y.byte := by unfold esc; rw [if_neg hdig, if_neg (fun e => h110 e.2)]
                    rw [hesc] at HN
                    have h110' : ((y.byte.toNat : Int) == 110) = false := by rw [beq_eq_false_iff_ne]; omega
                    by_cases hlo : 49 ≤ y.byte.toNat
                    · have hhi : 57 < y.byte.toNat := by
                        rcases Nat.lt_or_ge 57 y.byte.toNat with h | h
                        · exact h
                        · exact (hdig ⟨hpf, hlo, h⟩).elim
                      have hlo' : (49 : Int) ≤ y.byte.toNat := by omega
                      have hhi' : (57 : Int) < y.byte.toNat := by omega
                      clear hesc hpl' hpf hdig h110
                      go_wp2_with (go_at_call 39; refine (with_any _ _ _ _ w.heap.size (by simp; omega) (HP.out.far (((Below.refl _ _).alloc (Nat.le_refl _) _).alloc (by simp) _)) (by omega) HTL.out).mono ?_; rintro e w2 ⟨v2, rfl, hp2, hb2⟩)
                      go_roundw
                      case rel => exact ⟨k + 2, _, by omega, by go_num, hp2, (HBA2.out _ _).trans hb2, HSM.out.add _ (by omega) _, HPAR.out.trans HN.out⟩
                      case measure => simp [intOf]; omega
                    · have hlo' : (y.byte.toNat : Int) < 49 := by omega
                      clear hesc hpl' hpf hdig h110
                      go_wp2_with (go_at_call 39; refine (with_any _ _ _ _ w.heap.size (by simp; omega) (HP.out.far (((Below.refl _ _).alloc (Nat.le_refl _) _).alloc (by simp) _)) (by omega) HTL.out).mono ?_; rintro e w2 ⟨v2, rfl, hp2, hb2⟩)
                      go_roundw
                      case rel => exact ⟨k + 2, _, by omega, by go_num, hp2, (HBA2.out _ _).trans hb2, HSM.out.add _ (by omega) _, HPAR.out.trans HN.out⟩
                      case measure => simp [intOf]; omega
          · have hnext := parse_other (p := p) hlt h1f h38 h92
            have h38' : ((l[k].byte.toNat : Int) == 38) = false := by rw [beq_eq_false_iff_ne]; omega
            have h92' : ((l[k].byte.toNat : Int) == 92) = false := by rw [beq_eq_false_iff_ne]; omega
            have h38n : ((l[k].byte.toNat : Int) != 38) = true := by simp only [bne, h38', Bool.not_false]
            have h92n : ((l[k].byte.toNat : Int) != 92) = true := by simp only [bne, h92', Bool.not_false]
            have HN := Lib.hid hnext
            clear hnext h1 h1f h38 h92
            go_wp2_with (go_at_call 39; refine (with_any _ _ _ _ w.heap.size (by simp; omega) (HP.out.far ((Below.refl _ _).alloc (Nat.le_refl _) _)) (by omega) HTL.out).mono ?_; rintro e w2 ⟨v2, rfl, hp2, hb2⟩)
            go_roundw
            case rel => exact ⟨k + 1, _, by omega, by go_num, hp2, (HBA.out _).trans hb2, HSM.out.add _ (by omega) _, HPAR.out.trans HN.out⟩
            case measure => simp [intOf]; omega
    · obtain rfl : k = l.length := by omega
      have hfin : parse l = some p := by rw [HPAR.out, List.drop_length, parse_nil]
      have HF := Lib.hid hfin
      clear hfin
      go_wp2
      go_ret3
      exact ⟨by rw [HF.out]; exact ⟨_, rfl, HP.out⟩, HBW.out⟩
end Go.Proofs.YtebbilkkacbfjaaDoor
