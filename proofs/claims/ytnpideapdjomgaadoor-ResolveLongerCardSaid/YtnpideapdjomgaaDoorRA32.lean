/- Texts that lead to the claim, one behind the other: bytes.IndexAny at "\x00\n/", of any bytes: its walk. Condition: the library's variables hold what they hold. | bytes.IndexAny at "\x00\n/", of two to eight bytes, any bytes: its walk; a file's name: parse.isFile. Condition: the library's variables hold what they hold. -/
import Derived.Test.YtnpideapdjomgaaDoorRA30
import Derived.Shelf.Strings.IndexAnyAll
import Derived.Shelf.Bytes.SlTrimWalks
import Derived.Deep.Cut
import Derived.Deep.CutBlock
import Derived.Deep.LoopGhost
import Derived.WalkMore
namespace Go.Proofs.YtnpideapdjomgaaDoor
open Go.RowKit Go.Shelf Go.Deep Go.ChangeShapes Go.WideShapes

theorem chFacts {ch : ByteArray} (hch : ch = ⟨#[0, 10, 47]⟩) : ch.size = 3 ∧ ch.data.toList = [0, 10, 47] := by subst hch; exact ⟨rfl, rfl⟩
theorem chLow {ch : ByteArray} (hch : ch = ⟨#[0, 10, 47]⟩) (i : Nat) (h : i < ch.size) : (ch[i]'h).toNat < 128 := by
  subst hch
  have h3 : i < 3 := h
  match i, h3 with
  | 0, _ => exact (by decide : (0 : UInt8).toNat < 128)
  | 1, _ => exact (by decide : (10 : UInt8).toNat < 128)
  | 2, _ => exact (by decide : (47 : UInt8).toNat < 128)
theorem should_any (n : Nat) (w : World) : Calls Tryd.prog 71 #[.int .i64 (n : Nat)] w fun e w' => e = .returned (.bool (decide ((8 : Int) < (n : Int)))) ∧ w = w' := by
  go_enter Tryd.func71, Tryd.ntmps71
  go_wp2
  go_ret
  exact ⟨rfl, rfl⟩
theorem asciiContains (b : Nat) (x : UInt8) (v : Bool) (w : World) (hc : w.cell? ⟨b, x.toNat, none⟩ = some (.bool v)) :
    Calls Tryd.prog 72 #[.pointer (some ⟨b, 0, none⟩), .int .u8 x.toNat] w fun e w' => e = .returned (.bool v) ∧ w = w' :=
  (Any.bytes_asciiSet_contains { trimLays22 with } b x v w hc).mono fun e _ h => ⟨h.1, h.2.symm⟩
set_option maxRecDepth 100000 in
set_option maxHeartbeats 4000000 in
/-- More than eight bytes. -/
theorem indexAny_many {A : Option Addr} {n c : Nat} {l : List UInt8} {w : World} {S : Blocks} (hn : Hid (n = l.length)) (hl : Hid (SliceAt Rep.byte w S A c l)) (HS : Hid (∀ b, S b → b < w.heap.size)) (h8 : 8 < n) (ch : ByteArray) (hch : Hid (ch = ⟨#[0, 10, 47]⟩)) :
    Calls Tryd.prog 58 #[.slice A n c, .string ch] w fun e w' => e = .returned (.int .i64 (Lib.indexAny l [0, 10, 47])) ∧ Below w.heap.size w w' := by
  have hnc : n ≤ c := by rw [hn.out]; exact hl.out.len
  have hcm := hl.out.max
  obtain ⟨hc3, hcl⟩ := chFacts hch.out
  have h27 : (Tryd.prog.info? 104).map (fun i => (i.zero, i.size)) = some (some (.agg (Array.replicate 256 (.bool false))), 256) := by kernel_rfl
  have hM := Any.bytes_makeASCIISet { trimLays22 with } (zero_of_info h27).1 (zero_of_info h27).2 ch w (by rw [hc3]; decide) (by rw [hcl]; exact ascii_of_all (by decide))
  have hemp : ch.toList.isEmpty = false := by rw [ByteArray.toList_eq, hcl]; rfl
  have hn1 : ((ch.size : Int) == 1) = false := by rw [hc3]; rfl
  have hn2 : ((n : Int) == 1) = false := beq_eq_false_iff_ne.2 (by omega)
  have h8z : decide ((8 : Int) < (n : Int)) = true := decide_eq_true (by omega)
  rw [hcl] at hM
  obtain ⟨CS, hCS⟩ : ∃ CS, CS = Lib.setCells [0, 10, 47] := ⟨_, rfl⟩
  have hcs : CS.size = 256 := by rw [hCS]; exact Lib.setCells_size _
  have hcell : ∀ x : UInt8, CS[x.toNat]? = some (.bool (([0, 10, 47] : List UInt8).contains x)) := fun x => by rw [hCS]; exact Lib.setCells_at _ x
  have hone : CS.all (·.oneCell') = true := by rw [hCS]; exact Lib.setCells_one _
  rw [← hCS] at hM
  have HM : Hid (Calls Tryd.prog 65 #[.string ch] w fun e w' => e = .returned (.tuple #[.agg CS, .bool true]) ∧ w' = w.alloc (.cells CS 104)) := Lib.hid hM
  have HSC : Hid (∀ w1 : World, (storeCells ⟨w1.heap.size, 0, none⟩ CS.toList 0).run Tryd.prog (w1.alloc (.cells (Array.replicate 256 (.bool false)) 104)) = .ok () (w1.alloc (.cells CS 104))) := Lib.hid fun w1 => by
    have := run_storeCells_new (P := Tryd.prog) w1 104 (Array.replicate 256 (.bool false)) CS (by rw [hcs]; exact (zero_of_info h27).2) (by rw [hcs, Array.size_replicate]) hone
    simpa using this
  have HCELL : Hid (∀ (w1 W : World) (x : UInt8), W = w1.alloc (.cells CS 104) → W.cell? ⟨w1.heap.size, x.toNat, none⟩ = some (.bool (([0, 10, 47] : List UInt8).contains x))) := Lib.hid fun w1 W x hW => by
    rw [hW, cell_of_row _ _ _ CS 104 (0, 0) (heap_alloc_new _ _)]; exact hcell x
  have HCS := Lib.hid hcs
  clear hM hCS hcell hone hcl hc3 hcs
  have hz : ∀ w, (zeroValue 104).run Tryd.prog w = .ok (.agg (Array.replicate 256 (.bool false))) w := (zero_of_info h27).1
  clear h27
  go_enter Tryd.func58, Tryd.ntmps58
  go_upto_region 21 with (go_at_call 71; refine (should_any n _).mono ?_; rintro e w2 ⟨rfl, rfl⟩; rw [h8z])
  go_wp2_with (go_at_call 65; refine HM.out.mono ?_; rintro e w2 ⟨rfl, rfl⟩)
  have hst := HSC.out (w.alloc (.cells CS 104))
  rw [World.size_alloc] at hst
  rw [hst]
  simp only [Result.andThen]
  rw [Oper.upon_skip]
  have hbel : Below w.heap.size w ((w.alloc (.cells CS 104)).alloc (.cells CS 104)) := Below.alloc (Below.alloc (Below.refl _ _) (Nat.le_refl _) _) (by simp) _
  have hcl2 := fun x => HCELL.out (w.alloc (.cells CS 104)) _ x rfl
  rw [World.size_alloc] at hcl2
  generalize (w.alloc (.cells CS 104)).alloc (.cells CS 104) = w2 at hbel hcl2 ⊢
  have HB2 := Lib.hid hbel
  have HC2 := Lib.hid hcl2
  have HL2 : Hid (SliceAt Rep.byte w2 S A c l) := Lib.hid (hl.out.keep (fun _ h => h) (Same.of_below hbel HS.out))
  clear hst hbel hcl2
  go_wp2
  go_loopg [62] n (fun j v62 wr => ∃ i : Nat, i ≤ n ∧ v62 = .int .i64 (i : Nat) ∧ j = n - i ∧ w2 = wr ∧ Hid (Lib.NoAny l [0, 10, 47] i))
  case atStart => exact ⟨0, Nat.zero_le _, rfl, rfl, rfl, Lib.hid (Lib.NoAny.zero _ _)⟩
  case round =>
    obtain ⟨i, hin, rfl, hj, rfl, HN⟩ := hrel
    by_cases hi : i < n
    · have hil : i < l.length := by rw [← hn.out]; exact hi
      obtain ⟨g, o, rfl, -, hcx⟩ := HL2.out.byte hil
      obtain ⟨x, hx⟩ : ∃ x, x = l[i] := ⟨_, rfl⟩
      rw [← hx] at hcx
      have HX : Hid (l[i]? = some x) := Lib.hid (by rw [List.getElem?_eq_getElem hil, hx])
      have hcc := HC2.out x
      clear hx hil
      cases hin2 : ([0, 10, 47] : List UInt8).contains x <;> rw [hin2] at hcc
      · have HIN := Lib.hid hin2
        clear hin2
        go_wp2_with (go_at_call 72; refine (asciiContains _ x _ _ hcc).mono ?_; rintro e w3 ⟨rfl, rfl⟩)
        go_roundg (n - (i + 1))
        case measure => omega
        case rel => exact ⟨i + 1, hi, by simp, rfl, rfl, Lib.hid (HN.out.succ HX.out HIN.out)⟩
      · have HIN := Lib.hid hin2
        clear hin2
        go_wp2_with (go_at_call 72; refine (asciiContains _ x _ _ hcc).mono ?_; rintro e w3 ⟨rfl, rfl⟩)
        go_ret
        exact ⟨by rw [Lib.indexAny_hit HN.out HX.out HIN.out]; rfl, HB2.out⟩
    · obtain rfl : i = n := by omega
      go_wp2
      go_ret
      exact ⟨by rw [Lib.indexAny_none (by rw [← hn.out]; exact HN.out)]; rfl, HB2.out⟩
set_option maxRecDepth 100000 in
set_option maxHeartbeats 4000000 in
/-- One byte. -/
theorem indexAny_one {A : Option Addr} {c : Nat} {x : UInt8} {w : World} {S : Blocks} (hl : Hid (SliceAt Rep.byte w S A c [x])) (ch : ByteArray) (hch : Hid (ch = ⟨#[0, 10, 47]⟩)) :
    Calls Tryd.prog 58 #[.slice A 1 c, .string ch] w fun e w' => (∃ r : Int, e = .returned (.int .i64 r) ∧ decide (r < 0) = !([0, 10, 47] : List UInt8).contains x) ∧ Below w.heap.size w w' := by
  have hnc : 1 ≤ c := hl.out.len
  have hcm := hl.out.max
  obtain ⟨hc3, hcl⟩ := chFacts hch.out
  have HCL := Lib.hid hcl
  have hemp : ch.toList.isEmpty = false := by rw [ByteArray.toList_eq, hcl]; rfl
  obtain ⟨g, o, rfl, -, hcx⟩ := hl.out.byte (i := 0) (by simp)
  simp only [List.getElem_cons_zero, Nat.add_zero] at hcx
  clear hcl
  go_enter Tryd.func58, Tryd.ntmps58
  by_cases hx : x.toNat < 128
  · have hxb : decide ((128 : Int) ≤ (x.toNat : Int)) = false := by simp; omega
    have hxx : ((x.toNat : Int)).toNat.toUInt8 = x := by simp
    have hrun := Lib.run_indexByteString (P := Tryd.prog) ch (x.toNat : Int) w
    rw [hxx] at hrun
    obtain ⟨ix, hix⟩ : ∃ ix, ix = Lib.indexByte ch.data.toList x := ⟨_, rfl⟩
    rw [← hix] at hrun
    have HR : Hid (decide (ix < 0) = !([0, 10, 47] : List UInt8).contains x) := Lib.hid (by rw [hix, HCL.out, idx_lt0])
    clear hxx hix
    have hix : -1 ≤ ix ∨ True := .inr trivial
    clear hix
    cases hd : decide (0 ≤ ix)
    · have HD : Hid (decide (ix < 0) = true) := Lib.hid (by simpa using hd)
      go_wp2
      rw [run_callFunc_extern Tryd.func61 (by kernel_rfl) (by kernel_rfl) (by kernel_rfl) (e := Extern.BytealgIndexByte.indexByte) (by kernel_rfl), hrun]
      simp only [Result.andThen]
      rw [Oper.upon_value]
      go_wp2
      go_ret
      exact ⟨⟨-1, rfl, by rw [← HR.out, HD.out]; rfl⟩, Below.refl _ _⟩
    · have HD : Hid (decide (ix < 0) = false) := Lib.hid (by simpa using hd)
      go_wp2
      rw [run_callFunc_extern Tryd.func61 (by kernel_rfl) (by kernel_rfl) (by kernel_rfl) (e := Extern.BytealgIndexByte.indexByte) (by kernel_rfl), hrun]
      simp only [Result.andThen]
      rw [Oper.upon_value]
      go_wp2
      go_ret
      exact ⟨⟨0, rfl, by rw [← HR.out, HD.out]; rfl⟩, Below.refl _ _⟩
  · have hxb : decide ((128 : Int) ≤ (x.toNat : Int)) = true := by simp; omega
    have hx1 : (128 : Int) ≤ (x.toNat : Int) := by omega
    have hx256 : x.toNat < 256 := x.toNat_lt
    have HIN : Hid (([0, 10, 47] : List UInt8).contains x = false) := Lib.hid (by
      have h1 : (x == 0) = false := by rw [beq_eq_false_iff_ne]; rintro rfl; exact hx (by decide)
      have h2 : (x == 10) = false := by rw [beq_eq_false_iff_ne]; rintro rfl; exact hx (by decide)
      have h3 : (x == 47) = false := by rw [beq_eq_false_iff_ne]; rintro rfl; exact hx (by decide)
      simp only [List.contains_cons, h1, h2, h3, List.contains_nil, Bool.or_self])
    clear hx
    go_wp2
    go_loopg [5] 3 (fun k _ wr => ∃ i : Nat, k = 3 - i ∧ i ≤ 3 ∧ Hid (wr.heap[w.heap.size]? = some (.stringIter ch i)) ∧ Hid (Below w.heap.size w wr))
    case atStart => exact ⟨0, rfl, by omega, Lib.hid (World.iter_heap w ch 0), Lib.hid (Below.alloc (Below.refl _ _) (Nat.le_refl _) _)⟩
    case round =>
      obtain ⟨i, hk, hi, HI, HB⟩ := hrel
      by_cases h : i < 3
      · have hs : i < ch.size := by rw [hc3]; exact h
        have hlow := chLow hch.out i hs
        have hnx := fun ty => Lib.run_next_ascii_at (P := Tryd.prog) wr w.heap.size ch i ty HI.out hs hlow
        obtain ⟨y, hy⟩ : ∃ y, y = ch[i]'hs := ⟨_, rfl⟩
        rw [← hy] at hnx hlow
        have hne : ((y.toNat : Int) == 65533) = false := by rw [beq_eq_false_iff_ne]; omega
        have HI2 := Lib.hid (Lib.iterAt_heap wr _ ch i (i + 1) HI.out)
        have HB2 := Lib.hid (Lib.below_iterAt HB.out (Nat.le_refl _) ch (i + 1))
        obtain ⟨W, hW⟩ : ∃ W, W = wr.iterAt w.heap.size ch (i + 1) := ⟨_, rfl⟩
        rw [← hW] at hnx HI2 HB2
        clear hW hy hs
        go_wp2
        go_roundg (3 - (i + 1))
        case measure => omega
        case rel => exact ⟨i + 1, rfl, by omega, HI2, HB2⟩
      · have hs : ¬ i < ch.size := by rw [hc3]; exact h
        obtain rfl : i = 3 := by omega
        have hnx := fun ty => Lib.run_next_end_at (P := Tryd.prog) wr w.heap.size ch 3 ty HI.out hs
        go_wp2
        go_ret
        exact ⟨⟨-1, rfl, by rw [HIN.out]; rfl⟩, HB.out⟩
end Go.Proofs.YtnpideapdjomgaaDoor
namespace Go.Proofs.YtnpideapdjomgaaDoor
open Go.RowKit Go.Shelf Go.Deep Go.ChangeShapes Go.WideShapes

theorem run_rune22 (r : Nat) (y : ByteArray) (hy : Utf8.encode r = y) (W : World) : (convert 21 9 (.int .i32 r)).run Tryd.prog W = .ok (.string y) W := by
  rw [← hy]
  simp [convert, run_underlying Tryd.underlying21, run_underlying Tryd.underlying9, Conv.intToString]
theorem noAny_high {s chars : List UInt8} {i n : Nat} (h : Lib.NoAny s chars i) (hc : ∀ c ∈ chars, c.toNat < 128) (hn : ∀ j b, i ≤ j → j < i + n → s[j]? = some b → 128 ≤ b.toNat) : Lib.NoAny s chars (i + n) := by
  intro j b hj hb
  by_cases e : j < i
  · exact h j b e hb
  · have := hn j b (by omega) hj hb
    rw [← Bool.not_eq_true, List.contains_iff_mem]
    intro hm
    have := hc b hm
    omega
/-- How long a character is that was read. -/
theorem decN_size (n a b c d : Nat) (ha : 128 ≤ a) : ∀ p : Nat × Nat, Quote.decN n a b c d = p → p.1 ≠ 65533 → (p.2 = 2 ∧ 128 ≤ p.1 ∧ p.1 < 2048) ∨ (p.2 = 3 ∧ 2048 ≤ p.1 ∧ p.1 < 65536) ∨ (p.2 = 4 ∧ 65536 ≤ p.1 ∧ p.1 ≤ 1114111) := by
  intro p hp h
  unfold Quote.decN at hp
  rw [if_neg (by omega)] at hp
  repeat' split at hp
  all_goals (subst hp; first | exact absurd rfl h | exact .inl ⟨rfl, by simp only; omega, by simp only; omega⟩ | exact .inr (.inl ⟨rfl, by simp only; omega, by simp only; omega⟩) | exact .inr (.inr ⟨rfl, by simp only; omega, by simp only; omega⟩))
theorem decode_size (s : ByteArray) (r k : Nat) (h0 : 0 < s.size) (ha : 128 ≤ (s[0]'h0).toNat) (h : Utf8.decode s 0 = (r, k)) (hr : r ≠ 65533) : (k = 2 ∧ 128 ≤ r ∧ r < 2048) ∨ (k = 3 ∧ 2048 ≤ r ∧ r < 65536) ∨ (k = 4 ∧ 65536 ≤ r ∧ r ≤ 1114111) := by
  rw [Quote.decode_list, Quote.decL_eq] at h
  refine decN_size _ _ _ _ _ ?_ _ h hr
  have hl : s.data.toList.length = s.size := Array.length_toList
  rw [List.drop_zero, List.getD_eq_getElem?_getD, List.getElem?_eq_getElem (by omega)]
  exact ha
theorem encode_len (r : Nat) (h1 : 128 ≤ r) (h2 : r ≤ 1114111) (h3 : ¬ (55296 ≤ r ∧ r < 57344)) : (r < 2048 → (Utf8.encode (r : Int)).size = 2) ∧ (2048 ≤ r → r < 65536 → (Utf8.encode (r : Int)).size = 3) ∧ (65536 ≤ r → (Utf8.encode (r : Int)).size = 4) := by
  have hv : Utf8.valid (r : Int) = true := by
    unfold Utf8.valid
    simp
    omega
  unfold Utf8.encode
  simp only [hv, if_true, Int.toNat_natCast]
  rw [if_neg (by omega)]
  refine ⟨fun h => by rw [if_pos (by omega)]; rfl, fun h h' => by rw [if_neg (by omega), if_pos (by omega)]; rfl, fun h => by rw [if_neg (by omega), if_neg (by omega)]; rfl⟩
/-- Such a character's bytes are none of the three. -/
theorem encode_last (r : Nat) (h1 : 128 ≤ r) (h2 : r ≤ 1114111) (h3 : ¬ (55296 ≤ r ∧ r < 57344)) : ∃ a b, (Utf8.encode (r : Int)).data.toList = a ++ [b] ∧ 128 ≤ b.toNat := by
  rcases Quote.encode_high r h1 h2 h3 with ⟨a, b, e, hb⟩ | ⟨a, b, c, e, hb⟩ | ⟨a, b, c, d, e, hb⟩
  · exact ⟨[a], b, by rw [e]; rfl, hb⟩
  · exact ⟨[a, b], c, by rw [e]; rfl, hb⟩
  · exact ⟨[a, b, c], d, by rw [e]; rfl, hb⟩
theorem index_high {l : List UInt8} (hl : ∀ c ∈ l, c.toNat < 128) (a : List UInt8) {b : UInt8} (hb : 128 ≤ b.toNat) : Lib.index l (a ++ [b]) = -1 := by
  refine Lib.index_none fun j _ => ?_
  unfold Lib.occAt
  cases h : (a ++ [b]).isPrefixOf (l.drop j) with
  | false => rfl
  | true =>
    exfalso
    have hp := List.isPrefixOf_iff_prefix.1 h
    have hm : b ∈ l.drop j := hp.subset (by simp)
    have := hl b (List.mem_of_mem_drop hm)
    omega
set_option maxRecDepth 100000 in
set_option maxHeartbeats 4000000 in
/-- Two to eight bytes. -/
theorem indexAny_few22 {A : Option Addr} {n c : Nat} {l : List UInt8} {w : World} {S : Blocks} (hn : Hid (n = l.length)) (hl : Hid (SliceAt Rep.byte w S A c l)) (HS : Hid (∀ b, S b → b < w.heap.size)) (HE : Hid (Env22 w)) (h2 : 2 ≤ n) (h8 : n ≤ 8) (ch : ByteArray) (hch : Hid (ch = ⟨#[0, 10, 47]⟩)) :
    Calls Tryd.prog 58 #[.slice A n c, .string ch] w fun e w' => e = .returned (.int .i64 (Lib.indexAny l [0, 10, 47])) ∧ Below w.heap.size w w' := by
  have hnc : n ≤ c := by rw [hn.out]; exact hl.out.len
  have hcm := hl.out.max
  obtain ⟨hc3, hcl⟩ := chFacts hch.out
  have HCL := Lib.hid hcl
  have hemp : ch.toList.isEmpty = false := by rw [ByteArray.toList_eq, hcl]; rfl
  have hn2 : ((n : Int) == 1) = false := beq_eq_false_iff_ne.2 (by omega)
  have h8z : decide ((8 : Int) < (n : Int)) = false := decide_eq_false (by omega)
  obtain ⟨g, o, rfl, -, -⟩ := hl.out.byte (i := 0) (by rw [← hn.out]; omega)
  clear hcl
  go_enter Tryd.func58, Tryd.ntmps58
  go_wp2_with (go_at_call 71; refine (should_any n _).mono ?_; rintro _ w2 ⟨rfl, rfl⟩; rw [h8z])
  go_loopg [12] n (fun j v12 wr => ∃ i : Nat, i ≤ n ∧ v12 = .int .i64 (i : Nat) ∧ j = n - i ∧ Hid (Below w.heap.size w wr) ∧ Hid (Lib.NoAny l [0, 10, 47] i))
  case atStart => exact ⟨0, Nat.zero_le _, rfl, rfl, Lib.hid (Below.refl _ _), Lib.hid (Lib.NoAny.zero _ _)⟩
  case round =>
    obtain ⟨i, hin, rfl, hj, HB, HN⟩ := hrel
    obtain ⟨wq, rfl⟩ : ∃ W : World, W = wr := ⟨_, rfl⟩
    by_cases hi : i < n
    · have hil : i < l.length := by rw [← hn.out]; exact hi
      have HLQ : Hid (SliceAt Rep.byte wq S (some ⟨g, o, none⟩) c l) := Lib.hid (hl.out.keep (fun _ h => h) (Same.of_below HB.out HS.out))
      obtain ⟨g', o', he, -, hcx⟩ := HLQ.out.byte hil
      simp only [Option.some.injEq, Addr.mk.injEq] at he
      obtain ⟨rfl, rfl, -⟩ := he
      obtain ⟨x, hx⟩ : ∃ x, x = l[i] := ⟨_, rfl⟩
      rw [← hx] at hcx
      have HX : Hid (l[i]? = some x) := Lib.hid (by rw [List.getElem?_eq_getElem hil, hx])
      have hx256 : x.toNat < 256 := x.toNat_lt
      by_cases hlow : x.toNat < 128
      · have hxx : ((x.toNat : Int)).toNat.toUInt8 = x := by simp
        have hrun := Lib.run_indexByteString (P := Tryd.prog) ch (x.toNat : Int) wq
        rw [hxx] at hrun
        obtain ⟨ix, hix⟩ : ∃ ix, ix = Lib.indexByte ch.data.toList x := ⟨_, rfl⟩
        rw [← hix] at hrun
        have HR : Hid (decide (0 ≤ ix) = ([0, 10, 47] : List UInt8).contains x) := Lib.hid (by rw [hix, HCL.out, idx_contains])
        clear hxx hix hil hx
        cases hd : decide (0 ≤ ix)
        · have HIN : Hid (([0, 10, 47] : List UInt8).contains x = false) := Lib.hid (by rw [← HR.out, hd])
          go_wp2
          rw [run_callFunc_extern Tryd.func61 (by kernel_rfl) (by kernel_rfl) (by kernel_rfl) (e := Extern.BytealgIndexByte.indexByte) (by kernel_rfl), hrun]
          simp only [Result.andThen]
          rw [Oper.upon_value]
          go_wp2
          go_roundg (n - (i + 1))
          case measure => omega
          case rel => exact ⟨i + 1, hi, by simp, rfl, HB, Lib.hid (HN.out.succ HX.out HIN.out)⟩
        · have HIN : Hid (([0, 10, 47] : List UInt8).contains x = true) := Lib.hid (by rw [← HR.out, hd])
          go_wp2
          rw [run_callFunc_extern Tryd.func61 (by kernel_rfl) (by kernel_rfl) (by kernel_rfl) (e := Extern.BytealgIndexByte.indexByte) (by kernel_rfl), hrun]
          simp only [Result.andThen]
          rw [Oper.upon_value]
          go_wp2
          go_ret
          exact ⟨by rw [Lib.indexAny_hit HN.out HX.out HIN.out]; rfl, HB.out⟩
      · have hx1 : (128 : Int) ≤ (x.toNat : Int) := by omega
        have hxb : decide ((x.toNat : Int) < 128) = false := by simp; omega
        obtain ⟨sB, hsB⟩ : ∃ sB : ByteArray, sB = ⟨(l.drop i).toArray⟩ := ⟨_, rfl⟩
        have hsl : sB.data.toList = l.drop i := by rw [hsB]
        have hsz : sB.size = n - i := by
          show sB.data.size = _
          rw [← Array.length_toList, hsl, List.length_drop, ← hn.out]
        have hs0 : 0 < sB.size := by rw [hsz]; omega
        have hget : ∀ j, j < sB.size → (sB.get! j) = l.getD (i + j) 0 := fun j hj => by
          have := Quote.get_drop sB 0 j
          rw [Nat.zero_add, List.drop_zero, hsl] at this
          rw [this, List.getD_eq_getElem?_getD, List.getElem?_drop, ← List.getD_eq_getElem?_getD]
        have hfirst : 128 ≤ (sB[0]'hs0).toNat := by
          have h1 : sB.data.toList[0]? = some (sB[0]'hs0) := Lib.data_getElem? sB 0 hs0
          rw [hsl, List.getElem?_drop, Nat.add_zero, HX.out] at h1
          injection h1 with h1
          rw [← h1]; omega
        obtain ⟨r, k, e1, a1, a2, a3, a4, a5, a6⟩ := Quote.decode_high sB 0 hs0 hfirst
        have hdsz := decode_size sB r k hs0 hfirst e1
        have hdg : Lib.decodeGo sB = (r, k) := by unfold Lib.decodeGo; rw [if_neg (by omega), e1]
        obtain ⟨m, hm⟩ : ∃ m, m = n - i := ⟨_, rfl⟩
        have hikn : i + k ≤ n := by omega
        have HEQ : Hid (Env22 wq) := Lib.hid (HE.out.below HB.out)
        have HDEC : Hid (Calls Tryd.prog 73 #[.slice (some ⟨g, o + i, none⟩) m (c - i)] wq fun e w' => e = .returned (.tuple #[.int .i32 (r : Nat), .int .i64 (k : Nat)]) ∧ Below wq.heap.size wq w') := Lib.hid (by
          have := decode_any (b := g) (off := o + i) (cap := c - i) (s := sB) HEQ (Lib.hid fun j hj => by
            have hj2 : i + j < l.length := by rw [← hn.out]; omega
            obtain ⟨g2, o2, he2, -, hc2⟩ := HLQ.out.byte (i := i + j) hj2
            simp only [Option.some.injEq, Addr.mk.injEq] at he2
            obtain ⟨rfl, rfl, -⟩ := he2
            rw [hget j hj, List.getD_eq_getElem?_getD, List.getElem?_eq_getElem hj2, Nat.add_assoc]
            exact hc2)
          rw [hdg, hsz, ← hm] at this
          exact this)
        have hslice : ∀ W : World, (Instr.sliceAt 39 (.slice (some ⟨g, o, none⟩) n c) (some (.int .i64 (i : Int))) none none).run Tryd.prog W = .ok (.slice (some ⟨g, o + i, none⟩) m (c - i)) W := fun W => by
          have := run_slice_from (P := Tryd.prog) (w := W) stBytes (some ⟨g, o, none⟩) n c i (by omega)
          rw [this, ← hm]
          unfold cutA
          rw [if_neg (by omega), Option.map_some, Nat.mul_one, add_plain]
        have HNX : Hid (Lib.NoAny l [0, 10, 47] (i + k)) := Lib.hid (noAny_high HN.out (by decide) (fun j b hj hj' hb => by
          refine a6 (j - i) b (by omega) (by omega) ?_
          rw [hsl, List.getElem?_drop, show i + (j - i) = j by omega]
          exact hb))
        have hr1 : 128 ≤ r := a1
        have hr2 : r ≤ 1114111 := a2
        have HA3 := Lib.hid a3
        have hk1 : 1 ≤ k := a4
        have hk4 : k ≤ 8 := by omega
        have HSZ := Lib.hid hdsz
        have hmc : c - i ≤ 9223372036854775807 := by omega
        clear hsB hsl hsz hs0 hget hfirst e1 a1 a2 a3 a4 a5 a6 hdsz hdg hm hx hil hlow
        by_cases hre : r = 65533
        · have hreb : ((r : Int) != 65533) = false := by rw [hre]; rfl
          clear hre
          go_wp2_with (go_at_call 73; refine HDEC.out.mono ?_; rintro _ w5 ⟨rfl, hb5⟩; have HB5 : Hid (Below w.heap.size w w5) := Lib.hid (HB.out.trans (hb5.mono HB.out.size)); clear hb5)
          go_loopg [15] 3 (fun k _ wr => ∃ q : Nat, k = 3 - q ∧ q ≤ 3 ∧ Hid (wr.heap[w5.heap.size]? = some (.stringIter ch q)) ∧ Hid (Below w5.heap.size w5 wr))
          case atStart => exact ⟨0, rfl, by omega, Lib.hid (World.iter_heap w5 ch 0), Lib.hid (Below.alloc (Below.refl _ _) (Nat.le_refl _) _)⟩
          case round =>
            obtain ⟨q, hk, hq, HI, HBQ⟩ := hrel
            obtain ⟨wz, rfl⟩ : ∃ W : World, W = wr := ⟨_, rfl⟩
            by_cases h : q < 3
            · have hs : q < ch.size := by rw [hc3]; exact h
              have hlow2 := chLow hch.out q hs
              have hnx := fun ty => Lib.run_next_ascii_at (P := Tryd.prog) wz w5.heap.size ch q ty HI.out hs hlow2
              obtain ⟨y, hy⟩ : ∃ y, y = ch[q]'hs := ⟨_, rfl⟩
              rw [← hy] at hnx hlow2
              have hne : ((r : Int) == (y.toNat : Int)) = false := by rw [beq_eq_false_iff_ne]; omega
              have HI2 := Lib.hid (Lib.iterAt_heap wz _ ch q (q + 1) HI.out)
              have HB2 := Lib.hid (Lib.below_iterAt HBQ.out (Nat.le_refl _) ch (q + 1))
              obtain ⟨W, hW⟩ : ∃ W, W = wz.iterAt w5.heap.size ch (q + 1) := ⟨_, rfl⟩
              rw [← hW] at hnx HI2 HB2
              clear hW hy hs
              go_wp2
              go_roundg (3 - (q + 1))
              case measure => omega
              case rel => exact ⟨q + 1, rfl, by omega, HI2, HB2⟩
            · have hs : ¬ q < ch.size := by rw [hc3]; exact h
              obtain rfl : q = 3 := by omega
              have hnx := fun ty => Lib.run_next_end_at (P := Tryd.prog) wz w5.heap.size ch 3 ty HI.out hs
              go_wp2
              go_roundg (n - (i + k))
              case measure => omega
              case rel => exact ⟨i + k, hikn, by simp, rfl, Lib.hid (HB5.out.trans (HBQ.out.mono HB5.out.size)), HNX⟩
        · have hreb : ((r : Int) != 65533) = true := by rw [bne_iff_ne]; omega
          have hsz := HSZ.out hre
          have henc := encode_len r hr1 hr2 HA3.out
          obtain ⟨ya, yb, hya, hyb⟩ := encode_last r hr1 hr2 HA3.out
          obtain ⟨y, hy⟩ : ∃ y, Utf8.encode (r : Int) = y := ⟨_, rfl⟩
          have hcv := fun W => run_rune22 r y hy W
          rw [hy] at henc hya
          have hys : y.size = k := by
            rcases hsz with ⟨h1, h2, h3⟩ | ⟨h1, h2, h3⟩ | ⟨h1, h2, h3⟩
            · rw [h1]; exact henc.1 h3
            · rw [h1]; exact henc.2.1 h2 h3
            · rw [h1]; exact henc.2.2 h2
          have HYI : Hid (Lib.index ch.data.toList y.data.toList = -1) := Lib.hid (by rw [HCL.out, hya]; exact index_high (by decide) ya hyb)
          have hyn : ch ≠ y := by
            rintro rfl
            rw [HCL.out] at hya
            have h9 : yb ∈ ([0, 10, 47] : List UInt8) := by rw [hya]; simp
            have : ∀ z ∈ ([0, 10, 47] : List UInt8), z.toNat < 128 := by decide
            have := this yb h9
            omega
          have hk2 : 2 ≤ k := by omega
          have hk44 : k ≤ 4 := by omega
          obtain ⟨M, hM⟩ := HEQ.out.most
          have HYS := Lib.hid hys
          clear hre hsz henc hya hy hys
          by_cases hk3 : k = 3
          · have hkb : ((ch.size : Int) == (k : Int)) = true := by rw [hc3, hk3]; rfl
            clear hk3
            have hcb : (ch.toList == y.toList) = false := by
              rw [beq_eq_false_iff_ne, ByteArray.toList_eq, ByteArray.toList_eq]
              intro h
              exact hyn (ByteArray.ext (Array.toList_inj.1 h))
            go_wp2_with (go_at_call 73; refine HDEC.out.mono ?_; rintro _ w5 ⟨rfl, hb5⟩; have HB5 : Hid (Below w.heap.size w w5) := Lib.hid (HB.out.trans (hb5.mono HB.out.size)); clear hb5)
            go_roundg (n - (i + k))
            case measure => omega
            case rel => exact ⟨i + k, hikn, by simp, rfl, HB5, HNX⟩
          · have hkb : ((ch.size : Int) == (k : Int)) = false := by rw [beq_eq_false_iff_ne, hc3]; omega
            by_cases hMk : (k : Int) ≤ M
            · have hMb : decide ((k : Int) ≤ M) = true := by simpa using hMk
              go_wp2_with (go_at_call 73; refine HDEC.out.mono ?_; rintro _ w5 ⟨rfl, hb5⟩; have HB5 : Hid (Below w.heap.size w w5) := Lib.hid (HB.out.trans (hb5.mono HB.out.size)); have hM5 : w5.cell? ⟨0, 0, none⟩ = some (.int .i64 M) := (hb5.cell (World.block_lt_of_cell? wq _ hM)).trans hM; clear hb5)
              have hrun := Lib.run_indexString (P := Tryd.prog) ch y w5 0 M (by kernel_rfl) hM5 (by rw [HYS.out]; exact hk2) (by rw [HYS.out]; exact hMk) (by rw [hc3]; decide)
              rw [HYI.out] at hrun
              rw [run_callFunc_extern Tryd.func74 (by kernel_rfl) (by kernel_rfl) (by kernel_rfl) (e := Extern.BytealgIndex.index) (by kernel_rfl), hrun]
              simp only [Result.andThen]
              rw [Oper.upon_value]
              go_wp2
              go_roundg (n - (i + k))
              case measure => omega
              case rel => exact ⟨i + k, hikn, by simp, rfl, HB5, HNX⟩
            · have hMb : decide ((k : Int) ≤ M) = false := by simpa using hMk
              clear hMk
              go_wp2_with (go_at_call 73; refine HDEC.out.mono ?_; rintro _ w5 ⟨rfl, hb5⟩; have HB5 : Hid (Below w.heap.size w w5) := Lib.hid (HB.out.trans (hb5.mono HB.out.size)); have hM5 : w5.cell? ⟨0, 0, none⟩ = some (.int .i64 M) := (hb5.cell (World.block_lt_of_cell? wq _ hM)).trans hM; clear hb5)
              go_loopg [15] 3 (fun k _ wr => ∃ q : Nat, k = 3 - q ∧ q ≤ 3 ∧ Hid (wr.heap[w5.heap.size]? = some (.stringIter ch q)) ∧ Hid (Below w5.heap.size w5 wr))
              case atStart => exact ⟨0, rfl, by omega, Lib.hid (World.iter_heap w5 ch 0), Lib.hid (Below.alloc (Below.refl _ _) (Nat.le_refl _) _)⟩
              case round =>
                obtain ⟨q, hk, hq, HI, HBQ⟩ := hrel
                obtain ⟨wz, rfl⟩ : ∃ W : World, W = wr := ⟨_, rfl⟩
                by_cases h : q < 3
                · have hs : q < ch.size := by rw [hc3]; exact h
                  have hlow2 := chLow hch.out q hs
                  have hnx := fun ty => Lib.run_next_ascii_at (P := Tryd.prog) wz w5.heap.size ch q ty HI.out hs hlow2
                  obtain ⟨y, hy⟩ : ∃ y, y = ch[q]'hs := ⟨_, rfl⟩
                  rw [← hy] at hnx hlow2
                  have hne : ((r : Int) == (y.toNat : Int)) = false := by rw [beq_eq_false_iff_ne]; omega
                  have HI2 := Lib.hid (Lib.iterAt_heap wz _ ch q (q + 1) HI.out)
                  have HB2 := Lib.hid (Lib.below_iterAt HBQ.out (Nat.le_refl _) ch (q + 1))
                  obtain ⟨W, hW⟩ : ∃ W, W = wz.iterAt w5.heap.size ch (q + 1) := ⟨_, rfl⟩
                  rw [← hW] at hnx HI2 HB2
                  clear hW hy hs
                  go_wp2
                  go_roundg (3 - (q + 1))
                  case measure => omega
                  case rel => exact ⟨q + 1, rfl, by omega, HI2, HB2⟩
                · have hs : ¬ q < ch.size := by rw [hc3]; exact h
                  obtain rfl : q = 3 := by omega
                  have hnx := fun ty => Lib.run_next_end_at (P := Tryd.prog) wz w5.heap.size ch 3 ty HI.out hs
                  go_wp2
                  go_roundg (n - (i + k))
                  case measure => omega
                  case rel => exact ⟨i + k, hikn, by simp, rfl, Lib.hid (HB5.out.trans (HBQ.out.mono HB5.out.size)), HNX⟩
    · obtain rfl : i = n := by omega
      go_wp2
      go_ret
      exact ⟨by rw [Lib.indexAny_none (by rw [← hn.out]; exact HN.out)]; rfl, HB.out⟩
theorem contains_bad (s : List UInt8) : decide (Lib.indexAny s [0, 10, 47] < 0) = (!s.contains 0 && !s.contains 10 && !s.contains 47) := by
  induction s with
  | nil => rfl
  | cons b l ih =>
    have hg := Lib.indexAny_ge [0, 10, 47] l
    have hc : ([0, 10, 47] : List UInt8).contains b = (b == 0 || (b == 10 || b == 47)) := by
      show (b == 0 || (b == 10 || (b == 47 || false))) = _
      rw [Bool.or_false]
    have e0 : (b == 0) = ((0 : UInt8) == b) := by rw [Bool.eq_iff_iff, beq_iff_eq, beq_iff_eq]; exact eq_comm
    have e1 : (b == 10) = ((10 : UInt8) == b) := by rw [Bool.eq_iff_iff, beq_iff_eq, beq_iff_eq]; exact eq_comm
    have e2 : (b == 47) = ((47 : UInt8) == b) := by rw [Bool.eq_iff_iff, beq_iff_eq, beq_iff_eq]; exact eq_comm
    rw [Lib.indexAny, hc, List.contains_cons, List.contains_cons, List.contains_cons, ← e0, ← e1, ← e2]
    cases b == 0
    · cases b == 10
      · cases b == 47
        · simp only [Bool.or_self, Bool.false_eq_true, if_false, Bool.false_or]
          rw [← ih]
          split
          · rename_i h
            have : Lib.indexAny l [0, 10, 47] = -1 := by simpa using h
            rw [this]
          · rename_i h
            have : Lib.indexAny l [0, 10, 47] ≠ -1 := by simpa using h
            exact decide_eq_decide.2 (by omega)
        · simp
      · simp
    · simp
theorem headD_get (l : List UInt8) (h : 0 < l.length) : l.headD 0 = l[0] := by
  cases l with
  | nil => exact absurd h (by simp)
  | cons a r => rfl
theorem indexAny_any22 {A : Option Addr} {n c : Nat} {l : List UInt8} {w : World} {S : Blocks} (hn : Hid (n = l.length)) (hl : Hid (SliceAt Rep.byte w S A c l)) (HS : Hid (∀ b, S b → b < w.heap.size)) (HE : Hid (Env22 w)) (h1 : 1 ≤ n) (ch : ByteArray) (hch : Hid (ch = ⟨#[0, 10, 47]⟩)) :
    Calls Tryd.prog 58 #[.slice A n c, .string ch] w fun e w' => (∃ r : Int, e = .returned (.int .i64 r) ∧ decide (r < 0) = (!l.contains 0 && !l.contains 10 && !l.contains 47)) ∧ Below w.heap.size w w' := by
  by_cases h8 : 8 < n
  · exact (indexAny_many hn hl HS h8 ch hch).mono fun e w' h => ⟨⟨_, h.1, contains_bad l⟩, h.2⟩
  · by_cases h2 : 2 ≤ n
    · exact (indexAny_few22 hn hl HS HE h2 (by omega) ch hch).mono fun e w' h => ⟨⟨_, h.1, contains_bad l⟩, h.2⟩
    · obtain rfl : n = 1 := by omega
      obtain ⟨x, rfl⟩ : ∃ x, l = [x] := by
        have := hn.out
        match l, this with
        | [x], _ => exact ⟨x, rfl⟩
      refine (indexAny_one hl ch hch).mono ?_
      rintro e w' ⟨⟨r, rfl, h⟩, hb⟩
      refine ⟨⟨r, rfl, ?_⟩, hb⟩
      rw [h, ← contains_bad, Lib.indexAny]
      cases ([0, 10, 47] : List UInt8).contains x <;> rfl
set_option maxRecDepth 100000 in
set_option maxHeartbeats 4000000 in
theorem isFile_any {A : Option Addr} {n c : Nat} {l : List UInt8} {w : World} {S : Blocks} (hn : Hid (n = l.length)) (hl : Hid (SliceAt Rep.byte w S A c l)) (HS : Hid (∀ b, S b → b < w.heap.size)) (HE : Hid (Env22 w)) :
    Calls Tryd.prog 47 #[.slice A n c] w fun e w' => e = .returned (.bool (Cmd.file l)) ∧ Below w.heap.size w w' := by
  have hnc : n ≤ c := by rw [hn.out]; exact hl.out.len
  have hcm := hl.out.max
  have HF : Hid (Cmd.file l = (decide (1 ≤ n) && decide (n ≤ 64) && (!l.contains 0 && !l.contains 10 && !l.contains 47) && !Cmd.blank (l.headD 0))) := Lib.hid (by unfold Cmd.file; rw [← hn.out])
  go_enter Tryd.func47, Tryd.ntmps47
  by_cases h1 : 1 ≤ n
  · by_cases h2 : n ≤ 64
    · have hd1 : decide ((1 : Int) ≤ (n : Int)) = true := by simp; omega
      have hd2 : decide ((n : Int) ≤ 64) = true := by simp; omega
      have HF2 : Hid (Cmd.file l = ((!l.contains 0 && !l.contains 10 && !l.contains 47) && !Cmd.blank (l.headD 0))) := Lib.hid (by rw [HF.out]; simp [h1, h2])
      obtain ⟨ok, hok⟩ : ∃ ok, ok = (!l.contains 0 && !l.contains 10 && !l.contains 47) := ⟨_, rfl⟩
      have HIA : Hid (Calls Tryd.prog 58 #[.slice A n c, .string ⟨#[0, 10, 47]⟩] w fun e w' => (∃ r : Int, e = .returned (.int .i64 r) ∧ Hid (decide (r < 0) = ok)) ∧ Below w.heap.size w w') := Lib.hid (by
        rw [hok]
        exact (indexAny_any22 hn hl HS HE h1 ⟨#[0, 10, 47]⟩ (Lib.hid rfl)).mono fun e w' h => ⟨let ⟨r, a, b⟩ := h.1; ⟨r, a, Lib.hid b⟩, h.2⟩)
      rw [← hok] at HF2
      obtain ⟨g, o, rfl, hSg, hcx⟩ := hl.out.byte (i := 0) (by rw [← hn.out]; omega)
      obtain ⟨x, hx⟩ : ∃ x, x = l[0]'(by rw [← hn.out]; omega) := ⟨_, rfl⟩
      rw [← hx] at hcx
      have HX : Hid (l.headD 0 = x) := Lib.hid (by rw [hx]; exact headD_get l _)
      rw [Nat.add_zero] at hcx
      have hgw : g < w.heap.size := HS.out g hSg
      have hxx : ((x.toNat : Int)).toNat.toUInt8 = x := by simp
      obtain ⟨ib, hib⟩ : ∃ ib, ib = Lib.indexByte [32, 9] x := ⟨_, rfl⟩
      have HIB : Hid (∀ W, Calls Tryd.prog 45 #[.string ⟨#[32, 9]⟩, .int .u8 x.toNat] W fun e w' => e = .returned (.int .i64 ib) ∧ W = w') := Lib.hid fun W => (Tryd.strings_IndexByte _ _ W).mono fun e w' h => ⟨by rw [h.1, hxx, hib], h.2.symm⟩
      have HBL : Hid (decide (ib < 0) = !Cmd.blank x) := Lib.hid (by rw [hib, idx_lt0, isBlank])
      clear hok hx hxx hib
      cases ok
      · go_wp2_with (go_at_call 58; refine HIA.out.mono ?_; rintro _ w5 ⟨⟨r, rfl, hr⟩, hb5⟩; have hr' := hr.out; have HB5 := Lib.hid hb5; clear hb5)
        go_ret
        exact ⟨by rw [HF2.out]; rfl, HB5.out⟩
      · go_wp2_with (first | (go_at_call 58; refine HIA.out.mono ?_; rintro _ w5 ⟨⟨r, rfl, hr⟩, hb5⟩; have hr' := hr.out; have hc5 : w5.cell? ⟨g, o, none⟩ = some (.int .u8 x.toNat) := (hb5.cell (p := ⟨g, o, none⟩) hgw).trans hcx; have HB5 := Lib.hid hb5; clear hb5) | (go_at_call 45; refine (HIB.out _).mono ?_; rintro _ w6 ⟨rfl, rfl⟩))
        all_goals go_ret
        all_goals exact ⟨by rw [HF2.out, HX.out, ← HBL.out]; rfl, HB5.out⟩
    · have hd1 : decide ((1 : Int) ≤ (n : Int)) = true := by simp; omega
      have hd2 : decide ((n : Int) ≤ 64) = false := by simp; omega
      have HF2 : Hid (Cmd.file l = false) := Lib.hid (by rw [HF.out]; simp [h2])
      go_wp2_with fail
      go_ret
      exact ⟨by rw [HF2.out]; rfl, Below.refl _ _⟩
  · have hd1 : decide ((1 : Int) ≤ (n : Int)) = false := by simp; omega
    have HF2 : Hid (Cmd.file l = false) := Lib.hid (by rw [HF.out]; simp [h1])
    go_wp2_with fail
    go_ret
    exact ⟨by rw [HF2.out]; rfl, Below.refl _ _⟩
end Go.Proofs.YtnpideapdjomgaaDoor
