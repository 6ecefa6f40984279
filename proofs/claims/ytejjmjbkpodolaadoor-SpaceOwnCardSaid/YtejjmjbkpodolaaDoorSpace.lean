/- The program's own space: the walks of its methods. Condition: room. -/
import Derived.Test.YtejjmjbkpodolaaDoorSpaceMem
namespace Go.Proofs.YtejjmjbkpodolaaDoor
open Go.RowKit Go.ChangeShapes Go.WideShapes Go.Deep

abbrev Sp := SpB kP 68
section
variable {w : World} {g m n1 c1 n2 c2 : Nat} {S : Blocks} {A1 A2 : Option Addr} {p h : List UInt8}
theorem SpB.cellsP (s : Sp w g S m A1 n1 c1 A2 n2 c2 p h) : w.cell? ⟨g, 0, none⟩ = some (.slice A1 n1 c1) ∧ w.cell? ⟨g, 1, none⟩ = some (.slice A2 n2 c2) ∧ w.cell? ⟨g, 2, none⟩ = some (.int .i64 m) ∧ w.cell? ⟨g, 3, none⟩ = some (.bool true) ∧ w.frozen? ⟨g, 0, none⟩ = false ∧ w.frozen? ⟨g, 1, none⟩ = false :=
  ⟨cell_of_row w _ 0 _ _ (0, 0) s.blk, cell_of_row w _ 1 _ _ (0, 0) s.blk, cell_of_row w _ 2 _ _ (0, 0) s.blk, cell_of_row w _ 3 _ _ (0, 0) s.blk, by simp [World.frozen?, s.blk], by simp [World.frozen?, s.blk]⟩
theorem SpB.setP0 (s : Sp w g S m A1 n1 c1 A2 n2 c2 p h) {S' : Blocks} {A : Option Addr} {n c : Nat} {b : List UInt8} (hS : ∀ x, S x → S' x) (hS' : ∀ x, S' x → x ≠ g ∧ x < w.heap.size) (hb : SliceAt Rep.byte w S' A c b) (hn : n = b.length) (hm : n ≤ m) : Sp (w.setCell ⟨g, 0, none⟩ (.slice A n c)) g S' m A n c A2 n2 c2 b h := by
  have hk : Same S' w (w.setCell ⟨g, 0, none⟩ (.slice A n c)) := fun x hx => Below.heap_setCell w _ _ x (hS' x hx).1
  exact s.put (by simp [World.setCell, Array.getElem?_modify, s.blk]) (hb.keep (fun _ h => h) hk) ((s.th.up hS).keep (fun _ h => h) hk) hn s.hh hm s.lh fun x hx => ⟨(hS' x hx).1, by simpa [World.setCell] using (hS' x hx).2⟩
theorem SpB.setP1 (s : Sp w g S m A1 n1 c1 A2 n2 c2 p h) {S' : Blocks} {A : Option Addr} {n c : Nat} {b : List UInt8} (hS : ∀ x, S x → S' x) (hS' : ∀ x, S' x → x ≠ g ∧ x < w.heap.size) (hb : SliceAt Rep.byte w S' A c b) (hn : n = b.length) (hm : n ≤ m) : Sp (w.setCell ⟨g, 1, none⟩ (.slice A n c)) g S' m A1 n1 c1 A n c p b := by
  have hk : Same S' w (w.setCell ⟨g, 1, none⟩ (.slice A n c)) := fun x hx => Below.heap_setCell w _ _ x (hS' x hx).1
  exact s.put (by simp [World.setCell, Array.getElem?_modify, s.blk]) ((s.tp.up hS).keep (fun _ h => h) hk) (hb.keep (fun _ h => h) hk) s.hp hn s.lp hm fun x hx => ⟨(hS' x hx).1, by simpa [World.setCell] using (hS' x hx).2⟩
end
theorem only_setG {w w1 : World} {g o : Nat} {u : Value} (hb : Below w.heap.size w w1) : Only (fun b => b = g) w (w1.setCell ⟨g, o, none⟩ u) := Only.setCell (F := fun b => b = g) (p := ⟨g, o, none⟩) (Only.of_below hb _) (.inl rfl) u
section
variable (w : World) (g m n1 c1 n2 c2 : Nat) (S : Blocks) (A1 A2 : Option Addr) (p h : List UInt8)
set_option maxRecDepth 100000 in
theorem none_no (s : Hid (Sp w g S m A1 n1 c1 A2 n2 c2 p h)) : Calls Tryd.prog 26 #[.pointer (some ⟨g, 0, none⟩)] w fun e w' => e = .returned (.bool false) ∧ w = w' := by
  obtain ⟨h0, h1, h2, h3, f0, f1⟩ := s.out.cellsP
  go_enter Tryd.func26, Tryd.ntmps26
  go_wp2
  go_ret
  exact ⟨rfl, rfl⟩
set_option maxRecDepth 100000 in
theorem pattern_any (s : Hid (Sp w g S m A1 n1 c1 A2 n2 c2 p h)) : Calls Tryd.prog 9 #[.pointer (some ⟨g, 0, none⟩)] w fun e w' => ∃ A c, e = .returned (.slice A n1 c) ∧ n1 ≤ c ∧ c ≤ 9223372036854775807 ∧ Hid (Own Rep.byte 5 w' w.heap.size nob (.slice A n1 c) p) ∧ Hid (Below w.heap.size w w') := by
  obtain ⟨h0, h1, h2, h3, f0, f1⟩ := s.out.cellsP
  have hle := s.out.le
  go_enter Tryd.func9, Tryd.ntmps9
  go_wp2_with fail
  refine (none_no w g m n1 c1 n2 c2 S A1 A2 p h s).mono ?_
  rintro e w1 ⟨rfl, rfl⟩
  go_wp2_with fail
  refine (cloneB A1 n1 c1 p w S s.out.hp s.out.tp (by omega)).mono ?_
  rintro e w1 ⟨A, c, rfl, k1, k2, HO, HB⟩
  go_wp2_with fail
  go_ret
  exact ⟨A, c, rfl, k1, k2, HO, HB⟩
set_option maxRecDepth 100000 in
theorem hold_any (s : Hid (Sp w g S m A1 n1 c1 A2 n2 c2 p h)) : Calls Tryd.prog 10 #[.pointer (some ⟨g, 0, none⟩)] w fun e w' => ∃ A c, e = .returned (.slice A n2 c) ∧ n2 ≤ c ∧ c ≤ 9223372036854775807 ∧ Hid (Own Rep.byte 5 w' w.heap.size nob (.slice A n2 c) h) ∧ Hid (Below w.heap.size w w') := by
  obtain ⟨h0, h1, h2, h3, f0, f1⟩ := s.out.cellsP
  have hle := s.out.le
  go_enter Tryd.func10, Tryd.ntmps10
  go_wp2_with fail
  refine (none_no w g m n1 c1 n2 c2 S A1 A2 p h s).mono ?_
  rintro e w1 ⟨rfl, rfl⟩
  go_wp2_with fail
  refine (cloneB A2 n2 c2 h w S s.out.hh s.out.th (by omega)).mono ?_
  rintro e w1 ⟨A, c, rfl, k1, k2, HO, HB⟩
  go_wp2_with fail
  go_ret
  exact ⟨A, c, rfl, k1, k2, HO, HB⟩
set_option maxRecDepth 100000 in
theorem put_any (A : Option Addr) (n c : Nat) (b : List UInt8) (S2 : Blocks) (s : Hid (Sp w g S m A1 n1 c1 A2 n2 c2 p h)) (hb : Hid (SliceAt Rep.byte w S2 A c b)) (hn : Hid (n = b.length)) (hbig : n ≤ 140737488355328) :
    Calls Tryd.prog 16 #[.pointer (some ⟨g, 0, none⟩), .slice A n c] w (DoPost kP 68 w g S m (Space.putR m p h b)) := by
  obtain ⟨h0, h1, h2, h3, f0, f1⟩ := s.out.cellsP
  have hnc := hb.out.len
  have hcm := hb.out.max
  rw [← hn.out] at hnc
  go_enter Tryd.func16, Tryd.ntmps16
  go_wp2_with fail
  refine (none_no w g m n1 c1 n2 c2 S A1 A2 p h s).mono ?_
  rintro e w1 ⟨rfl, rfl⟩
  by_cases hm : n ≤ m
  · have d1 : decide ((m : Int) < (n : Int)) = false := decide_eq_false (by omega)
    have HR : Hid (Space.putR m p h b = (0, b, h)) := Lib.hid (by rw [Space.putR, if_pos (by rw [← hn.out]; exact hm)])
    go_wp2_with fail
    refine (cloneB A n c b w S2 hn.out hb.out hbig).mono ?_
    rintro e w1 ⟨A', c', rfl, k1, k2, HO, HB⟩
    have s1 := s.out.far HB.out
    have HS1 := Lib.hid s1
    obtain ⟨r0, r1, r2, r3, r4, r5⟩ := s1.cellsP
    clear s1 h0 h1 h2 h3 f0 f1
    go_wp2_with fail
    go_ret
    rw [HR.out]
    obtain ⟨-, hs⟩ := HO.out.above
    have hgl := s.out.glt
    refine ⟨rfl, grows S w.heap.size w1.heap.size, ⟨_, _, _, _, _, _, HS1.out.setP0 (fun _ => .inl) (fun x hx => ?_) (hs.up fun _ => .inr) hn.out hm⟩, fun x hx => hx.imp id And.left, only_setG HB.out⟩
    rcases hx with hx | hx
    · exact ⟨(s.out.hS x hx).1, Nat.lt_of_lt_of_le (s.out.hS x hx).2 HB.out.size⟩
    · exact ⟨by have := hx.1; omega, hx.2⟩
  · have d1 : decide ((m : Int) < (n : Int)) = true := decide_eq_true (by omega)
    have HR : Hid (Space.putR m p h b = (62, p, h)) := Lib.hid (by rw [Space.putR, if_neg (by rw [← hn.out]; exact hm)])
    go_wp2_with fail
    go_ret
    rw [HR.out]
    exact ⟨rfl, S, ⟨_, _, _, _, _, _, s.out⟩, fun _ h => .inl h, Only.refl _ _⟩
end
end Go.Proofs.YtejjmjbkpodolaaDoor
