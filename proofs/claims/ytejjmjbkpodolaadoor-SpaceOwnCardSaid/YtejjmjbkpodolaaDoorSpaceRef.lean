/- The document's space (galleyref25): the walks of its methods. Condition: room. -/
import Derived.Test.YtejjmjbkpodolaaDoorSpaceMem
import Derived.Test.YtejjmjbkpodolaaDoorCopyB
namespace Go.Proofs.YtejjmjbkpodolaaDoor
open Go.RowKit Go.ChangeShapes Go.WideShapes Go.Deep

abbrev Sr := SpB kR 63
theorem only_setR {w w1 : World} {g o : Nat} {u : Value} (hb : Below w.heap.size w w1) : Only (fun b => b = g) w (w1.setCell ⟨g, o, none⟩ u) := Only.setCell (F := fun b => b = g) (p := ⟨g, o, none⟩) (Only.of_below hb _) (.inl rfl) u
section
variable {w : World} {g m n1 c1 n2 c2 : Nat} {S : Blocks} {A1 A2 : Option Addr} {p h : List UInt8}
theorem SpB.cellsR (s : Sr w g S m A1 n1 c1 A2 n2 c2 p h) : w.cell? ⟨g, 0, none⟩ = some (.int .i64 m) ∧ w.cell? ⟨g, 1, none⟩ = some (.slice A1 n1 c1) ∧ w.cell? ⟨g, 2, none⟩ = some (.slice A2 n2 c2) ∧ w.cell? ⟨g, 3, none⟩ = some (.bool true) ∧ w.frozen? ⟨g, 1, none⟩ = false ∧ w.frozen? ⟨g, 2, none⟩ = false :=
  ⟨cell_of_row w _ 0 _ _ (0, 0) s.blk, cell_of_row w _ 1 _ _ (0, 0) s.blk, cell_of_row w _ 2 _ _ (0, 0) s.blk, cell_of_row w _ 3 _ _ (0, 0) s.blk, by simp [World.frozen?, s.blk], by simp [World.frozen?, s.blk]⟩
theorem SpB.setR1 (s : Sr w g S m A1 n1 c1 A2 n2 c2 p h) {S' : Blocks} {A : Option Addr} {n c : Nat} {b : List UInt8} (hS : ∀ x, S x → S' x) (hS' : ∀ x, S' x → x ≠ g ∧ x < w.heap.size) (hb : SliceAt Rep.byte w S' A c b) (hn : n = b.length) (hm : n ≤ m) : Sr (w.setCell ⟨g, 1, none⟩ (.slice A n c)) g S' m A n c A2 n2 c2 b h := by
  have hk : Same S' w (w.setCell ⟨g, 1, none⟩ (.slice A n c)) := fun x hx => Below.heap_setCell w _ _ x (hS' x hx).1
  exact s.put (by simp [World.setCell, Array.getElem?_modify, s.blk]) (hb.keep (fun _ h => h) hk) ((s.th.up hS).keep (fun _ h => h) hk) hn s.hh hm s.lh fun x hx => ⟨(hS' x hx).1, by simpa [World.setCell] using (hS' x hx).2⟩
theorem SpB.setR2 (s : Sr w g S m A1 n1 c1 A2 n2 c2 p h) {S' : Blocks} {A : Option Addr} {n c : Nat} {b : List UInt8} (hS : ∀ x, S x → S' x) (hS' : ∀ x, S' x → x ≠ g ∧ x < w.heap.size) (hb : SliceAt Rep.byte w S' A c b) (hn : n = b.length) (hm : n ≤ m) : Sr (w.setCell ⟨g, 2, none⟩ (.slice A n c)) g S' m A1 n1 c1 A n c p b := by
  have hk : Same S' w (w.setCell ⟨g, 2, none⟩ (.slice A n c)) := fun x hx => Below.heap_setCell w _ _ x (hS' x hx).1
  exact s.put (by simp [World.setCell, Array.getElem?_modify, s.blk]) ((s.tp.up hS).keep (fun _ h => h) hk) (hb.keep (fun _ h => h) hk) s.hp hn s.lp hm fun x hx => ⟨(hS' x hx).1, by simpa [World.setCell] using (hS' x hx).2⟩
end
def Space.setR (m : Nat) (p h q r : List UInt8) : Space.R := if q.length ≤ m ∧ r.length ≤ m then (0, q, r) else (62, p, h)
set_option maxRecDepth 100000 in
theorem rnew_ok (w : World) (m : Nat) (hm : m ≤ 1048576) : Calls Tryd.prog 7 #[.int .i64 m] w fun e w' => ∃ g, e = .returned (.tuple #[.pointer (some ⟨g, 0, none⟩), .int .i64 0]) ∧ w.heap.size ≤ g ∧ Hid (SpX kR 63 w' g nob m [] []) ∧ Hid (Below w.heap.size w w') := by
  have d1 : decide ((m : Int) < 0) = false := decide_eq_false (by omega)
  have d2 : decide ((1048576 : Int) < (m : Int)) = false := decide_eq_false (by omega)
  go_enter Tryd.func7, Tryd.ntmps7
  go_wp2_with fail
  go_ret2
  refine ⟨w.heap.size, rfl, Nat.le_refl _, Lib.hid ⟨none, 0, 0, none, 0, 0, heap_alloc_new _ _, SliceAt.nil _ _ _, SliceAt.nil _ _ _, rfl, rfl, Nat.zero_le _, Nat.zero_le _, hm, fun _ h => h.elim⟩, Lib.hid ((Below.refl _ _).alloc (Nat.le_refl _) _)⟩
set_option maxRecDepth 100000 in
theorem rnew_no (w : World) (m : Int) (hm : m < 0 ∨ 1048576 < m) : Calls Tryd.prog 7 #[.int .i64 m] w fun e w' => e = .returned (.tuple #[.pointer none, .int .i64 1]) ∧ w = w' := by
  rcases hm with hm | hm
  · have d1 : decide (m < 0) = true := decide_eq_true hm
    go_enter Tryd.func7, Tryd.ntmps7
    go_wp2_with fail
    go_ret2
    exact ⟨rfl, rfl⟩
  · have d1 : decide (m < 0) = false := decide_eq_false (by omega)
    have d2 : decide ((1048576 : Int) < m) = true := decide_eq_true hm
    go_enter Tryd.func7, Tryd.ntmps7
    go_wp2_with fail
    go_ret2
    exact ⟨rfl, rfl⟩
section
variable (w : World) (g m n1 c1 n2 c2 : Nat) (S : Blocks) (A1 A2 : Option Addr) (p h : List UInt8)
set_option maxRecDepth 100000 in
theorem rnone_no (s : Hid (Sr w g S m A1 n1 c1 A2 n2 c2 p h)) : Calls Tryd.prog 29 #[.pointer (some ⟨g, 0, none⟩)] w fun e w' => e = .returned (.bool false) ∧ w = w' := by
  obtain ⟨h0, h1, h2, h3, f0, f1⟩ := s.out.cellsR
  go_enter Tryd.func29, Tryd.ntmps29
  go_wp2
  go_ret
  exact ⟨rfl, rfl⟩
set_option maxRecDepth 100000 in
theorem joined_any (A B : Option Addr) (n c k d : Nat) (a b : List UInt8) (S2 S3 : Blocks) (ha : Hid (SliceAt Rep.byte w S2 A c a)) (hb : Hid (SliceAt Rep.byte w S3 B d b)) (hna : Hid (n = a.length)) (hnb : Hid (k = b.length)) (hS3 : Hid (∀ x, S3 x → x < w.heap.size)) (hm : n + 1 + k ≤ 140737488355328) :
    Calls Tryd.prog 54 #[.slice A n c, .slice B k d] w fun e w' => ∃ A' n' c', e = .returned (.slice A' n' c') ∧ n' ≤ c' ∧ c' ≤ 9223372036854775807 ∧ Hid (Own Rep.byte 5 w' w.heap.size nob (.slice A' n' c') (a ++ 10 :: b)) ∧ Hid (n' = n + 1 + k) ∧ Hid (Below w.heap.size w w') := by
  have HB : Hid (∀ W, Below w.heap.size w W → SliceAt Rep.byte W S3 B d b) := Lib.hid fun W hW => hb.out.keep (fun _ h => h) (Same.of_below hW hS3.out)
  have hna' : Hid (a.length + 1 + k ≤ 140737488355328) := Lib.hid (by have := hna.out; omega)
  go_enter Tryd.func54, Tryd.ntmps54
  go_wp2_with fail
  refine (copyB A n c a w S2 hna.out ha.out (by omega)).mono ?_
  rintro e w1 ⟨A1, c1, rfl, k1, k2, HO1, HB1⟩
  go_wp2_with (first
    | (at_builtin; refine wpList_append_bytes _ rfl (.tmp 8) (.tmp 9) 55 rfl w.heap.size 5 stBytes _ a rfl (HO1.out.alloc _) (under (w1.heap.size + 1)) _ 1 _ [10] rfl (oneByte w1 10 10 rfl _ (Nat.lt_succ_self _)) rfl (by have := hna'.out; simp; omega) (by have := HB1.out.size; simp; omega) ?_; intro v2 w2 hown2 hg2 hat2; obtain ⟨B2, k2, d2, rfl, -, -, -⟩ := hown2.form; have HB2 := Lib.hid (below_own (HB1.out.alloc HB1.out.size _) (HO1.out.alloc _) hg2 (by have := HB1.out.size; simp; omega)); have HO2 := Lib.hid hown2; clear hown2 hg2 hat2)
    | (at_builtin; refine wpList_append_bytes _ rfl (.tmp 11) (.tmp 12) 55 rfl w.heap.size 5 stBytes _ (a ++ [10]) rfl HO2.out S3 B k d b rfl (HB.out _ HB2.out) hnb.out.symm (by have := hna'.out; simp; omega) HB2.out.size ?_; intro v3 w3 hown3 hg3 hat3; obtain ⟨B3, k3, d3, rfl, hk3, hc3, hd3⟩ := hown3.form; have HB3 := Lib.hid (below_own HB2.out HO2.out hg3 HB2.out.size); have HO3 := Lib.hid hown3; clear hown3 hg3 hat3))
  go_ret
  refine ⟨B3, k3, d3, rfl, hc3, hd3, Lib.hid (by have := HO3.out; simpa using this), Lib.hid (by have := hk3.out; have := hna.out; have := hnb.out; simp at *; omega), HB3⟩
set_option maxRecDepth 100000 in
theorem set_any (A B : Option Addr) (n c k d : Nat) (a b : List UInt8) (S2 S3 : Blocks) (s : Hid (Sr w g S m A1 n1 c1 A2 n2 c2 p h)) (ha : Hid (SliceAt Rep.byte w S2 A c a)) (hb : Hid (SliceAt Rep.byte w S3 B d b)) (hna : Hid (n = a.length)) (hnb : Hid (k = b.length))
    (hS3 : Hid (∀ x, S3 x → x ≠ g ∧ x < w.heap.size)) (hn : n ≤ 140737488355328) (hk : k ≤ 140737488355328) :
    Calls Tryd.prog 52 #[.pointer (some ⟨g, 0, none⟩), .slice A n c, .slice B k d] w (DoPost kR 63 w g S m (Space.setR m p h a b)) := by
  obtain ⟨h0, h1, h2, h3, f0, f1⟩ := s.out.cellsR
  have hnc := ha.out.len
  have hcm := ha.out.max
  rw [← hna.out] at hnc
  have hkd := hb.out.len
  have hdm := hb.out.max
  rw [← hnb.out] at hkd
  by_cases h1' : n ≤ m
  · have d1 : decide ((m : Int) < (n : Int)) = false := decide_eq_false (by omega)
    by_cases h2' : k ≤ m
    · have d2 : decide ((m : Int) < (k : Int)) = false := decide_eq_false (by omega)
      have HR : Hid (Space.setR m p h a b = (0, a, b)) := Lib.hid (if_pos ⟨by rw [← hna.out]; exact h1', by rw [← hnb.out]; exact h2'⟩)
      go_enter Tryd.func52, Tryd.ntmps52
      go_wp2_with fail
      refine (copyB A n c a w S2 hna.out ha.out hn).mono ?_
      rintro e w1 ⟨A', c', rfl, k1, k2, HO, HB⟩
      have s1 := s.out.far HB.out
      have HS1 := Lib.hid s1
      obtain ⟨r0, r1, r2, r3, r4, r5⟩ := s1.cellsR
      clear s1 h0 h1 h2 h3 f0 f1
      go_wp2_with fail
      have hgl := s.out.glt
      have HS2 := Lib.hid (HS1.out.setR1 (S' := grows S w.heap.size w1.heap.size) (fun _ => .inl) (fun x hx => by
        rcases hx with hx | hx
        · exact ⟨(s.out.hS x hx).1, Nat.lt_of_lt_of_le (s.out.hS x hx).2 HB.out.size⟩
        · exact ⟨by have := hx.1; omega, hx.2⟩) (HO.out.above.2.up fun _ => .inr) hna.out h1')
      obtain ⟨w2, hw2⟩ : ∃ w2, w2 = w1.setCell ⟨g, 1, none⟩ (.slice A' n c') := ⟨_, rfl⟩
      have hsz2 : w2.heap.size = w1.heap.size := by rw [hw2]; simp [World.setCell]
      have ho2 : Only (fun x => x = g) w w2 := by rw [hw2]; exact only_setR HB.out
      rw [← hw2] at HS2 ⊢
      have HW2 := Lib.hid hsz2
      have HOn2 := Lib.hid ho2
      have hsl : SliceAt Rep.byte w2 S3 B d b := hb.out.keep (fun _ h => h) (ho2.same fun x hx => ⟨(hS3.out x hx).2, (hS3.out x hx).1⟩)
      clear hw2 r0 r1 r2 r3 r4 r5 hsz2 ho2
      refine (copyB B k d b w2 S3 hnb.out hsl hk).mono ?_
      rintro e w3 ⟨B', d', rfl, k3, k4, HO3, HB3⟩
      have s3 := HS2.out.far HB3.out
      have HS3 := Lib.hid s3
      obtain ⟨r0, r1, r2, r3, r4, r5⟩ := s3.cellsR
      clear s3 hsl
      go_wp2_with fail
      go_ret
      rw [HR.out]
      have hsz := HW2.out
      have hsw := HB.out.size
      refine ⟨rfl, grows (grows S w.heap.size w1.heap.size) w2.heap.size w3.heap.size, ⟨_, _, _, _, _, _, HS3.out.setR2 (fun _ => .inl) (fun x hx => ?_) (HO3.out.above.2.up fun _ => .inr) hnb.out h2'⟩, fun x hx => ?_, ?_⟩
      · rcases hx with hx | hx
        · exact HS3.out.hS x hx
        · exact ⟨by have := hx.1; omega, hx.2⟩
      · rcases hx with (hx | hx) | hx
        · exact .inl hx
        · exact .inr hx.1
        · exact .inr (by have := hx.1; omega)
      · exact Only.setCell (F := fun b => b = g) (HOn2.out.trans (Only.of_below HB3.out nob) fun _ h => h.elim) (.inl rfl) _
    · have d2 : decide ((m : Int) < (k : Int)) = true := decide_eq_true (by omega)
      have HR : Hid (Space.setR m p h a b = (62, p, h)) := Lib.hid (if_neg fun hh => h2' (by rw [hnb.out]; exact hh.2))
      go_enter Tryd.func52, Tryd.ntmps52
      go_wp2_with fail
      go_ret
      rw [HR.out]
      exact DoPost.same ⟨_, _, _, _, _, _, s.out⟩ rfl (Below.refl _ _)
  · have d1 : decide ((m : Int) < (n : Int)) = true := decide_eq_true (by omega)
    have HR : Hid (Space.setR m p h a b = (62, p, h)) := Lib.hid (if_neg fun hh => h1' (by rw [hna.out]; exact hh.1))
    go_enter Tryd.func52, Tryd.ntmps52
    go_wp2_with fail
    go_ret
    rw [HR.out]
    exact DoPost.same ⟨_, _, _, _, _, _, s.out⟩ rfl (Below.refl _ _)
set_option maxRecDepth 100000 in
theorem rput_any (A : Option Addr) (n c : Nat) (b : List UInt8) (S2 : Blocks) (s : Hid (Sr w g S m A1 n1 c1 A2 n2 c2 p h)) (hb : Hid (SliceAt Rep.byte w S2 A c b)) (hn : Hid (n = b.length)) (hbig : n ≤ 140737488355328) :
    Calls Tryd.prog 20 #[.pointer (some ⟨g, 0, none⟩), .slice A n c] w (DoPost kR 63 w g S m (Space.putR m p h b)) := by
  obtain ⟨h0, h1, h2, h3, f0, f1⟩ := s.out.cellsR
  have hle := s.out.le
  have HR : Hid (Space.setR m p h b h = Space.putR m p h b) := Lib.hid (by
    unfold Space.setR Space.putR
    have : h.length ≤ m := by rw [← s.out.hh]; exact s.out.lh
    simp [this])
  go_enter Tryd.func20, Tryd.ntmps20
  go_wp2_with fail
  refine (rnone_no w g m n1 c1 n2 c2 S A1 A2 p h s).mono ?_
  rintro e w1 ⟨rfl, rfl⟩
  go_wp2_with fail
  refine (set_any w g m n1 c1 n2 c2 S A1 A2 p h A A2 n c n2 c2 b h S2 S s hb (Lib.hid s.out.th) hn (Lib.hid s.out.hh) (Lib.hid s.out.hS) hbig (by omega)).mono ?_
  intro e w2 hd
  obtain ⟨q, rfl, HQ, HT⟩ := hd.named
  go_wp2_with fail
  go_ret
  rw [← HR.out]
  exact DoPost.back HQ HT
set_option maxRecDepth 100000 in
set_option maxHeartbeats 1000000 in
theorem rjoin_any (A : Option Addr) (n c : Nat) (b : List UInt8) (S2 : Blocks) (s : Hid (Sr w g S m A1 n1 c1 A2 n2 c2 p h)) (hb : Hid (SliceAt Rep.byte w S2 A c b)) (hS2 : Hid (∀ x, S2 x → x < w.heap.size)) (hn : Hid (n = b.length)) (hbig : n ≤ 1099511627776) :
    Calls Tryd.prog 22 #[.pointer (some ⟨g, 0, none⟩), .slice A n c] w (DoPost kR 63 w g S m (Space.joinR m p h b)) := by
  obtain ⟨h0, h1, h2, h3, f0, f1⟩ := s.out.cellsR
  have hle := s.out.le
  have HD : Hid (Sr w.drew g S m A1 n1 c1 A2 n2 c2 p h) := Lib.hid (s.out.far ((Below.refl _ _).drew))
  have HJ := Lib.hid (joined_any w.drew A1 A n1 c1 n c p b S S2 (Lib.hid HD.out.tp) (Lib.hid (hb.out.keep (fun _ h => h) fun _ _ => rfl)) (Lib.hid s.out.hp) hn (Lib.hid hS2.out) (by omega))
  have HR : Hid (Space.setR m p h (p ++ 10 :: b) h = Space.joinR m p h b) := Lib.hid (by
    unfold Space.setR Space.joinR
    have : h.length ≤ m := by rw [← s.out.hh]; exact s.out.lh
    simp [this, Nat.add_comm, Nat.add_left_comm])
  go_enter Tryd.func22, Tryd.ntmps22
  go_wp2_with fail
  refine (rnone_no w g m n1 c1 n2 c2 S A1 A2 p h s).mono ?_
  rintro e w1 ⟨rfl, rfl⟩
  go_wp2_with fail
  go_region_with (first
    | (go_at_call 54; refine HJ.out.mono ?_; rintro e w1 ⟨A', n', c', rfl, k1, k2, HO, HN, HB⟩; have HS1 := Lib.hid (HD.out.far HB.out); obtain ⟨r0, r1, r2, r3, r4, r5⟩ := HS1.out.cellsR; have hsr := HS1.out.hS)
    | (go_at_call 52; refine (set_any w1 g m n1 c1 n2 c2 S A1 A2 p h A' A2 n' c' n2 c2 (p ++ 10 :: b) h _ S HS1 (Lib.hid HO.out.above.2) (Lib.hid HS1.out.th) (Lib.hid HO.out.above.1) (Lib.hid HS1.out.hh) (Lib.hid hsr) (by have := HN.out; omega) (by omega)).mono ?_; intro e w2 hd; obtain ⟨q, rfl, HQ, HT⟩ := hd.named))
  all_goals
    go_wp2_with fail
    go_ret
    rw [← HR.out]
    exact DoPost.back HQ (Lib.hid (HT.out.from_ (bfar ((Below.refl w.heap.size w).drew) HB.out)))
end
end Go.Proofs.YtejjmjbkpodolaaDoor
