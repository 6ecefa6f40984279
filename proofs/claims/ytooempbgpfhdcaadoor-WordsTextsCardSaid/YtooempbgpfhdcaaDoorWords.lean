/- Words in memory: the walks of words.New, At, Peek, Take, and of strings.IndexRune at the digits. Condition: room. -/
import Derived.Test.YtooempbgpfhdcaaDoorProg
import Derived.Test.YtooempbgpfhdcaaDoorShelf
import Derived.Test.YtooempbgpfhdcaaDoorAppendStr
import Derived.Test.YtooempbgpfhdcaaDoorOnly
import Derived.Test.YtooempbgpfhdcaaDoorRowAt
import Derived.Test.YtooempbgpfhdcaaDoorWordsPlain
import Derived.WalkKit
import Derived.WalkSpells
import Derived.RegionTactic
import Derived.ChangeAlike
import Derived.Deep.QuietTactic
import Derived.BigQuiet
import Derived.Deep.LoopGhost
import Derived.WalkMore
import Derived.Deep.CutBlock
import Derived.Lib.Hide
namespace Go.Proofs.YtooempbgpfhdcaaDoor
open Go.RowKit Go.ChangeShapes Go.WideShapes Go.Deep

theorem quietL {P : Program} {f : FuncId} {args : Array Value} {w : World} {n : Nat} {v : Value}
    (h : Calls P f args (w.drewN n) fun e w' => e = .returned v ∧ w.drewN n = w') : Calls P f args (w.drewN n) fun e w'' => e = .returned v ∧ ∃ m, w'' = w.drewN m :=
  h.mono fun _ _ ⟨he, hm⟩ => ⟨he, n, hm.symm⟩
theorem below_drewN (w : World) (m : Nat) : Below w.heap.size w (w.drewN m) := ⟨rfl, rfl, rfl, Nat.le_refl _, fun _ _ => rfl⟩
/-- bytes.Clone. -/
theorem cloneB (A : Option Addr) (n c : Nat) (l : List UInt8) (w : World) (S : Blocks) (hn : n = l.length) (hl : SliceAt Rep.byte w S A c l) (hb : n ≤ 140737488355328) :
    Calls Tryd.prog 15 #[.slice A n c] w fun e w' => ∃ A' c', e = .returned (.slice A' n c') ∧ n ≤ c' ∧ c' ≤ 9223372036854775807 ∧ Hid (Own Rep.byte 5 w' w.heap.size nob (.slice A' n c') l) ∧ Hid (Below w.heap.size w w') := by
  cases A with
  | none =>
    have h0 : l = [] := List.eq_nil_of_length_eq_zero (by have := hl.2.2.1 rfl; have := hl.len; omega)
    subst h0
    obtain rfl : n = 0 := hn
    refine (Tryd.bytes_Clone_nil 0 c w).mono ?_
    rintro e w' ⟨rfl, rfl⟩
    exact ⟨none, 0, rfl, Nat.le_refl _, by omega, Lib.hid (Own.nil _ _ _ _), Lib.hid (Below.refl _ _)⟩
  | some a =>
    refine (Tryd.bytes_Clone_at a n c (l.map fun b => (b.toNat : Int)) w (by simp [hn]) hb (fun i hi => ?_)).mono ?_
    · have hil : i < l.length := by omega
      obtain ⟨g, o, he, -, hc⟩ := hl.byte hil
      simp only [Option.some.injEq] at he
      subst he
      rw [add_plain, hc]
      simp [List.getD, hil]
    · rintro e w' ⟨v', rfl, ho, -, hbw⟩
      have hbc : (l.map fun b => (b.toNat : Int)).map (Value.int .u8) = bcells l := by simp [bcells]
      rw [hbc, hn] at ho
      have hown := Own.of_bcells ho
      obtain ⟨A', n', c', rfl, h1, h2, h3⟩ := hown.form
      have e1 : n' = n := by rw [h1.out, hn]
      subst e1
      exact ⟨A', c', rfl, h2, h3, Lib.hid hown, Lib.hid hbw⟩
/-- Words: a text and a place in it. -/
structure Wd (w : World) (g : Nat) (A : Option Addr) (n c : Nat) (l : List UInt8) (p : Nat) : Prop where
  blk : w.heap[g]? = some (.cells #[.slice A n c, .int .i64 p, .bool true] 37)
  txt : SliceAt Rep.byte w (under g) A c l
  hn : n = l.length
  hp : p ≤ n
section
variable {w w' : World} {g n c p : Nat} {A : Option Addr} {l : List UInt8}
theorem Wd.glt (h : Wd w g A n c l p) : g < w.heap.size := (Array.getElem?_eq_some_iff.1 h.blk).1
theorem Wd.cells (h : Wd w g A n c l p) : w.cell? ⟨g, 0, none⟩ = some (.slice A n c) ∧ w.cell? ⟨g, 1, none⟩ = some (.int .i64 p) ∧ w.cell? ⟨g, 2, none⟩ = some (.bool true) ∧ w.frozen? ⟨g, 1, none⟩ = false :=
  ⟨cell_of_row w _ 0 _ _ (0, 0) h.blk, cell_of_row w _ 1 _ _ (0, 0) h.blk, cell_of_row w _ 2 _ _ (0, 0) h.blk, by simp [World.frozen?, h.blk]⟩
theorem Wd.only (h : Wd w g A n c l p) (F : Blocks) (ho : Only F w w') (hF : ∀ b, F b → g < b) : Wd w' g A n c l p :=
  ⟨(ho.block g h.glt fun e => by have := hF _ e; omega).trans h.blk, h.txt.keep (fun _ h => h) (ho.same fun b hb => ⟨Nat.lt_trans hb h.glt, fun e => by have := hF _ e; have h2 : b < g := hb; omega⟩), h.hn, h.hp⟩
theorem Wd.far (h : Wd w g A n c l p) (hb : Below w.heap.size w w') : Wd w' g A n c l p := h.only nob (Only.of_below hb _) fun _ h => h.elim
theorem Wd.set (h : Wd w g A n c l p) {q : Nat} (hq : q ≤ n) : Wd (w.setCell ⟨g, 1, none⟩ (.int .i64 q)) g A n c l q := by
  refine ⟨by simp [World.setCell, Array.getElem?_modify, h.blk], h.txt.keep (fun _ h => h) fun b hb => ?_, h.hn, hq⟩
  exact Below.heap_setCell w _ _ b (by have h2 : b < g := hb; simp only; omega)
theorem Wd.caps (h : Wd w g A n c l p) : n ≤ c ∧ c ≤ 9223372036854775807 := ⟨by rw [h.hn]; exact h.txt.len, h.txt.max⟩
theorem Wd.byte (h : Wd w g A n c l p) {i : Nat} (hi : i < l.length) : ∃ gt o, A = some ⟨gt, o, none⟩ ∧ gt < g ∧ w.cell? ⟨gt, o + i, none⟩ = some (.int .u8 l[i].toNat) := h.txt.byte hi
end
set_option maxRecDepth 100000 in
theorem new_any (A : Option Addr) (n c : Nat) (l : List UInt8) (w : World) (S : Blocks) (hn : Hid (n = l.length)) (hl : Hid (SliceAt Rep.byte w S A c l)) (hb : n ≤ 140737488355328) :
    Calls Tryd.prog 6 #[.slice A n c] w fun e w' => ∃ g A' c', e = .returned (.pointer (some ⟨g, 0, none⟩)) ∧ w.heap.size ≤ g ∧ Hid (Wd w' g A' n c' l 0) ∧ Hid (Below w.heap.size w w') := by
  go_enter Tryd.func6, Tryd.ntmps6
  go_wp2_with fail
  refine (cloneB A n c l w S hn.out hl.out hb).mono ?_
  rintro e w1 ⟨A1, c1, rfl, h1, h2, HO, HB⟩
  go_wp2_with fail
  go_ret
  refine ⟨w1.heap.size, A1, c1, rfl, HB.out.size, Lib.hid ⟨heap_alloc_new _ _, ?_, hn.out, Nat.zero_le _⟩, Lib.hid (HB.out.alloc HB.out.size _)⟩
  obtain ⟨A2, n2, c2, e2, -, -, -, hs⟩ := HO.out.read
  simp only [Value.slice.injEq] at e2
  obtain ⟨rfl, -, rfl⟩ := e2
  exact hs.keep (btw_under (Nat.le_refl _)) fun b hb => Below.heap_alloc w1 _ b hb.2
section
variable (w : World) (g n c p : Nat) (A : Option Addr) (l : List UInt8)
set_option maxRecDepth 100000 in
theorem none_no (h : Hid (Wd w g A n c l p)) : Calls Tryd.prog 16 #[.pointer (some ⟨g, 0, none⟩)] w fun e w' => e = .returned (.bool false) ∧ w = w' := by
  obtain ⟨h0, h1, h2, h3⟩ := h.out.cells
  go_enter Tryd.func16, Tryd.ntmps16
  go_wp2
  go_ret
  exact ⟨rfl, rfl⟩
set_option maxRecDepth 100000 in
theorem at_any (h : Hid (Wd w g A n c l p)) : Calls Tryd.prog 9 #[.pointer (some ⟨g, 0, none⟩)] w fun e w' => e = .returned (.int .i64 p) ∧ w = w' := by
  obtain ⟨h0, h1, h2, h3⟩ := h.out.cells
  go_enter Tryd.func9, Tryd.ntmps9
  go_wp2_with (go_at_call 16; refine (none_no _ _ _ _ _ _ _ h).mono ?_; rintro e w' ⟨rfl, rfl⟩)
  go_ret
  exact ⟨rfl, rfl⟩
set_option maxRecDepth 100000 in
set_option maxHeartbeats 1000000 in
theorem peek_yes (h : Hid (Wd w g A n c l p)) (hp : p < l.length) : Calls Tryd.prog 18 #[.pointer (some ⟨g, 0, none⟩)] w fun e w' => e = .returned (.tuple #[.int .u8 l[p].toNat, .bool true]) ∧ Below w.heap.size w w' := by
  obtain ⟨h0, h1, h2, h3⟩ := h.out.cells
  obtain ⟨hnc, hcm⟩ := h.out.caps
  have hpn : p < n := by have := h.out.hn; omega
  have d1 : ((p : Int) == (n : Int)) = false := by rw [beq_eq_false_iff_ne]; omega
  have d2 : (p == n) = false := by rw [beq_eq_false_iff_ne]; omega
  have d3 : (p : Int) < (n : Int) := by omega
  have d4 : (0 : Int) ≤ (p : Int) := Int.natCast_nonneg _
  have HQ : Hid (∀ m, Calls Tryd.prog 16 #[.pointer (some ⟨g, 0, none⟩)] (w.drewN m) fun e w' => e = .returned (.bool false) ∧ w.drewN m = w') := Lib.hid fun m => none_no _ g n c p A l (Lib.hid (h.out.far (below_drewN w m)))
  go_enter Tryd.func18, Tryd.ntmps18
  go_wp2_with fail
  go_quiet ((go_at_call 16; exact quietL (HQ.out _)))
  generalize hW : w.drewN _ = W
  have HB : Hid (Below w.heap.size w W) := Lib.hid (hW ▸ below_drewN w _)
  have HW := Lib.hid (h.out.far HB.out)
  clear hW h0 h1 h2 h3 d1 d2
  obtain ⟨h0, h1, h2, h3⟩ := HW.out.cells
  obtain ⟨gt, o, rfl, hgt, hc⟩ := HW.out.byte hp
  go_wp2_with fail
  go_quiet (fail)
  go_wp2_with fail
  go_ret2
  exact ⟨rfl, HB.out.trans ((below_drewN W _).mono HB.out.size)⟩
set_option maxRecDepth 100000 in
set_option maxHeartbeats 1000000 in
theorem peek_no (h : Hid (Wd w g A n c l p)) (hp : p = l.length) : Calls Tryd.prog 18 #[.pointer (some ⟨g, 0, none⟩)] w fun e w' => e = .returned (.tuple #[.int .u8 0, .bool false]) ∧ Below w.heap.size w w' := by
  obtain ⟨h0, h1, h2, h3⟩ := h.out.cells
  obtain ⟨hnc, hcm⟩ := h.out.caps
  obtain rfl : p = n := by rw [hp, h.out.hn]
  have HQ : Hid (∀ m, Calls Tryd.prog 16 #[.pointer (some ⟨g, 0, none⟩)] (w.drewN m) fun e w' => e = .returned (.bool false) ∧ w.drewN m = w') := Lib.hid fun m => none_no _ g p c p A l (Lib.hid (h.out.far (below_drewN w m)))
  clear hp
  go_enter Tryd.func18, Tryd.ntmps18
  go_wp2_with fail
  go_quiet ((go_at_call 16; exact quietL (HQ.out _)))
  generalize hW : w.drewN _ = W
  have HB : Hid (Below w.heap.size w W) := Lib.hid (hW ▸ below_drewN w _)
  clear hW h0 h1 h2 h3
  go_wp2_with fail
  go_ret2
  exact ⟨rfl, HB.out⟩
set_option maxRecDepth 100000 in
theorem take_yes (h : Hid (Wd w g A n c l p)) (hp : p < l.length) : Calls Tryd.prog 12 #[.pointer (some ⟨g, 0, none⟩)] w fun e w' => e = .returned (.tuple #[.int .u8 l[p].toNat, .bool true]) ∧ Hid (Wd w' g A n c l (p + 1)) ∧ Hid (Only (fun b => b = g) w w') := by
  have hpn : p < n := by have := h.out.hn; omega
  obtain ⟨hnc, hcm⟩ := h.out.caps
  go_enter Tryd.func12, Tryd.ntmps12
  go_wp2_with fail
  refine (peek_yes w g n c p A l h hp).mono ?_
  rintro e w1 ⟨rfl, hb⟩
  have HB := Lib.hid hb
  have HW := Lib.hid (h.out.far hb)
  clear hb
  obtain ⟨h0, h1, h2, h3⟩ := HW.out.cells
  go_wp2_with fail
  go_ret2
  refine ⟨rfl, Lib.hid ?_, Lib.hid ((Only.of_below HB.out (fun b => b = g)).setCell (p := ⟨g, 1, none⟩) (.inl rfl) _)⟩
  have := HW.out.set (q := p + 1) (by omega)
  simpa using this
end
/-! ### The digits are searched for -/
def digitsS : ByteArray := ⟨#[48, 49, 50, 51, 52, 53, 54, 55, 56, 57]⟩
theorem index_digits : ∀ k : Fin 128, Lib.indexByte digitsS.data.toList (Nat.toUInt8 k.val) = if 48 ≤ k.val ∧ k.val ≤ 57 then (k.val : Int) - 48 else -1 := by decide +kernel
theorem index_none (c : UInt8) : ∀ l : List UInt8, (∀ b ∈ l, b ≠ c) → Lib.indexByte l c = -1
  | [], _ => rfl
  | b :: l, h => by
    have h1 : (b == c) = false := by rw [beq_eq_false_iff_ne]; exact h b (by simp)
    simp [Lib.indexByte, h1, index_none c l fun x hx => h x (by simp [hx])]
theorem encode_two (c : UInt8) (h : 128 ≤ c.toNat) : ∃ a b : UInt8, Utf8.encode (c.toNat : Int) = ⟨#[a, b]⟩ ∧ 128 ≤ b.toNat := by
  have hc := c.toNat_lt
  have hv : Utf8.valid (c.toNat : Int) = true := by simp [Utf8.valid]; omega
  refine ⟨UInt8.ofNat (192 + c.toNat / 64), UInt8.ofNat (128 + c.toNat % 64), ?_, ?_⟩
  · unfold Utf8.encode
    have e : ((c.toNat : Int)).toNat = c.toNat := by omega
    simp only [hv, if_true, e]
    rw [if_neg (by omega), if_pos (by omega)]
  · simp; omega
set_option maxRecDepth 10000000 in
set_option maxHeartbeats 1000000 in
theorem indexRune_dig (c : UInt8) (w : World) : Calls Tryd.prog 23 #[.string ⟨#[48, 49, 50, 51, 52, 53, 54, 55, 56, 57]⟩, .int .i32 c.toNat] w fun e w' => e = .returned (.int .i64 (if Words.isDig c then (c.toNat : Int) - 48 else -1)) ∧ Below w.heap.size w w' := by
  by_cases hc : c.toNat < 128
  · refine (Tryd.strings_IndexRune_ascii digitsS (c.toNat : Int) w (by omega) (by omega)).mono ?_
    rintro e w' ⟨rfl, rfl⟩
    have := index_digits ⟨c.toNat, hc⟩
    have e : ((c.toNat : Int)).toNat = c.toNat := by omega
    rw [e]
    refine ⟨?_, Below.refl _ _⟩
    rw [this]
    simp [Words.isDig]
  · have hlt := c.toNat_lt
    obtain ⟨a, b, he, hb⟩ := encode_two c (by omega)
    have hdig : Words.isDig c = false := by simp [Words.isDig]; omega
    have hd1 : decide ((c.toNat : Int) < 128) = false := decide_eq_false (by omega)
    have hd2 : ((c.toNat : Int) == 65533) = false := by rw [beq_eq_false_iff_ne]; omega
    have hd3 : Lib.validRune (c.toNat : Int) = true := by simp [Lib.validRune]; omega
    have hne0 : ((49 : Int) != (b.toNat : Int)) = true := by rw [bne_iff_ne]; omega
    have hne : ((((⟨#[48, 49, 50, 51, 52, 53, 54, 55, 56, 57]⟩ : ByteArray)[1]'(by decide)).toNat : Int) != (((⟨#[a, b]⟩ : ByteArray)[1]'(by decide : 1 < 2)).toNat : Int)) = true := hne0
    have hb2 : b.toNat < 256 := b.toNat_lt
    have hidx : ∀ W, Calls Tryd.prog 30 #[.string ⟨#[50, 51, 52, 53, 54, 55, 56, 57]⟩, .int .u8 b.toNat] W fun e w' => e = .returned (.int .i64 (-1)) ∧ w' = W := fun W => by
      have h := Tryd.strings_IndexByte ⟨#[50, 51, 52, 53, 54, 55, 56, 57]⟩ (b.toNat : Int) W
      have e : (((b.toNat : Int)).toNat.toUInt8) = b := by simp
      rw [e, index_none b _ (by intro x hx e; subst e; revert hx hb; simp; rintro (h | h | h | h | h | h | h | h) <;> subst h <;> decide)] at h
      exact h
    have HI := Lib.hid hidx
    simp only [hdig, Bool.false_eq_true, if_false]
    clear hidx hdig hne0
    go_enter Tryd.func23, Tryd.ntmps23
    go_wp2_with fail
    refine (Tryd.utf8_ValidRune (c.toNat : Int) _).mono ?_
    rintro e w' ⟨rfl, rfl⟩
    go_wp2_with fail
    go_step3
    go_wp2_with fail
    refine wp_loop_rounds 1 ?_
    rw [rounds_succ]
    go_wp2_with fail
    go_step3
    go_wp2_with fail
    go_quiet (fail)
    generalize hW : w'.drewN _ = W
    have HB : Hid (Below w'.heap.size w' W) := Lib.hid (hW ▸ below_drewN w' _)
    clear hW he hd1 hd2 hd3 hc hlt
    go_wp2_with fail
    go_quiet ((go_at_call 30; exact Calls.quiet_of_same (HI.out _)))
    go_wp2_with fail
    rw [Exit.noGoto_ret]
    try go_wp2_with fail
    try rw [Exit.noGoto_ret]
    try go_wp2_with fail
    go_ret
    exact ⟨rfl, HB.out.trans ((below_drewN W _).mono HB.out.size)⟩
end Go.Proofs.YtooempbgpfhdcaaDoor
