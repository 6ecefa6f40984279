/- The program's own space, second part: rows put behind rows, First, Cut. Condition: room. -/
import Derived.Test.YtejjmjbkpodolaaDoorSpace
import Derived.Test.YtejjmjbkpodolaaDoorCutB
import Derived.Test.YtejjmjbkpodolaaDoorCopyOwn
namespace Go.Proofs.YtejjmjbkpodolaaDoor
open Go.RowKit Go.ChangeShapes Go.WideShapes Go.Deep

/-- A row of no element yet, with room. -/
theorem Own.room (w : World) (cs : Array Value) (k base : Nat) (hb : base ≤ w.heap.size) (hk : k ≤ maxLen) (hs : cs.size = k) : Own Rep.byte 5 (w.alloc (.cells cs 5)) base nob (.slice (some ⟨w.heap.size, 0, none⟩) 0 k) [] :=
  ⟨[], ⟨by simp, .inr ⟨w.heap.size, k, cs, by simp, hb, heap_alloc_new w _, by simp, hk, by simpa [Rep.byte] using hs, by simp⟩⟩, fun _ h => h.elim, by simp, fun i hi => absurd hi (by simp)⟩
theorem info_u8 : (Tryd.prog.info? 5).map (fun i => (i.zero, i.size, i.bytes)) = some (some (.int .u8 0), 1, 1) := by kernel_rfl
theorem run_make_room (u : World) (n : Nat) (hn : n ≤ 1099511627776) : (Instr.makeSlice 55 (.int .i64 0) (.int .i64 (n : Int))).run Tryd.prog u = .ok (.slice (some ⟨u.heap.size, 0, none⟩) 0 n) (u.alloc (.cells (madeCells #[.int .u8 0] n) 5)) := by
  obtain ⟨i0, hi, hz0, hz1, hz2⟩ := info_parts info_u8
  have h := run_make (P := Tryd.prog) u 55 5 i0 (.int .u8 0) Tryd.underlying55 hi hz0 .i64 .i64 (0 : Int) (n : Int) (by omega) (by omega) (by rw [hz2]; omega) (by omega)
  have e : ((n : Int)).toNat = n := by omega
  rw [e] at h
  simpa [hz1, Value.cells] using h
section
variable (w : World) (g m n1 c1 n2 c2 : Nat) (S : Blocks) (A1 A2 : Option Addr) (p h : List UInt8)
set_option maxRecDepth 100000 in
set_option maxHeartbeats 1000000 in
theorem behind_yes (A B : Option Addr) (n c k d : Nat) (a b : List UInt8) (S2 S3 : Blocks) (s : Hid (Sp w g S m A1 n1 c1 A2 n2 c2 p h)) (ha : Hid (SliceAt Rep.byte w S2 A c a)) (hb : Hid (SliceAt Rep.byte w S3 B d b)) (hna : Hid (n = a.length)) (hnb : Hid (k = b.length))
    (hS2 : Hid (∀ x, S2 x → x < w.heap.size)) (hS3 : Hid (∀ x, S3 x → x < w.heap.size)) (hm : n + 1 + k ≤ m) :
    Calls Tryd.prog 53 #[.pointer (some ⟨g, 0, none⟩), .slice A n c, .slice B k d] w fun e w' => ∃ A' n' c', e = .returned (.tuple #[.slice A' n' c', .int .i64 0]) ∧ Hid (Own Rep.byte 5 w' w.heap.size nob (.slice A' n' c') (a ++ 10 :: b)) ∧ Hid (n' = n + 1 + k) ∧ Hid (Below w.heap.size w w') := by
  obtain ⟨h0, h1, h2, h3, f0, f1⟩ := s.out.cellsP
  have hmm := s.out.hm
  have hmk := fun u => run_make_room u (n + 1 + k) (by omega)
  rw [show ((n + 1 + k : Nat) : Int) = (n : Int) + 1 + (k : Int) by omega] at hmk
  have hnc := ha.out.len
  have hcm := ha.out.max
  rw [← hna.out] at hnc
  have hkd := hb.out.len
  have hdm := hb.out.max
  rw [← hnb.out] at hkd
  have d1 : decide ((m : Int) < (n : Int) + 1 + (k : Int)) = false := decide_eq_false (by omega)
  go_enter Tryd.func53, Tryd.ntmps53
  have HA : Hid (∀ W, Below w.heap.size w W → SliceAt Rep.byte W S2 A c a) := Lib.hid fun W hW => ha.out.keep (fun _ h => h) (Same.of_below hW hS2.out)
  have HB : Hid (∀ W, Below w.heap.size w W → SliceAt Rep.byte W S3 B d b) := Lib.hid fun W hW => hb.out.keep (fun _ h => h) (Same.of_below hW hS3.out)
  have HO0 : Hid (Own Rep.byte 5 (w.alloc (.cells (madeCells #[.int .u8 0] (n + 1 + k)) 5)) w.heap.size nob (.slice (some ⟨w.heap.size, 0, none⟩) 0 (n + 1 + k)) []) := Lib.hid (Own.room w _ _ _ (Nat.le_refl _) (by simp only [maxLen]; omega) (by simp [size_madeCells]))
  have HB0 : Hid (Below w.heap.size w (w.alloc (.cells (madeCells #[.int .u8 0] (n + 1 + k)) 5))) := Lib.hid ((Below.refl _ _).alloc (Nat.le_refl _) _)
  have hna' : Hid (a.length + 1 + k ≤ 1048576) := Lib.hid (by have := hna.out; omega)
  go_wp2_with (first
    | (at_builtin; refine wpList_append_bytes _ rfl (.tmp 27) (.tmp 28) 55 rfl w.heap.size 5 stBytes _ [] rfl HO0.out S2 A n c a rfl (HA.out _ HB0.out) hna.out.symm (by simp; omega) HB0.out.size ?_; intro v1 w1 hown1 hg1 hat1; obtain ⟨B1, k1, d1, rfl, -, -, -⟩ := hown1.form; have HB1 := Lib.hid (below_own HB0.out HO0.out hg1 HB0.out.size); have HO1 := Lib.hid hown1; clear hown1 hg1 hat1)
    | (at_builtin; refine wpList_append_bytes _ rfl (.tmp 29) (.tmp 30) 55 rfl w.heap.size 5 stBytes _ ([] ++ a) rfl (HO1.out.alloc _) (under (w1.heap.size + 1)) _ 1 _ [10] rfl (oneByte w1 10 10 rfl _ (Nat.lt_succ_self _)) rfl (by have := hna'.out; simp; omega) (by have := HB1.out.size; simp; omega) ?_; intro v2 w2 hown2 hg2 hat2; obtain ⟨B2, k2, d2, rfl, -, -, -⟩ := hown2.form; have HB2 := Lib.hid (below_own (HB1.out.alloc HB1.out.size _) (HO1.out.alloc _) hg2 (by have := HB1.out.size; simp; omega)); have HO2 := Lib.hid hown2; clear hown2 hg2 hat2)
    | (at_builtin; refine wpList_append_bytes _ rfl (.tmp 31) (.tmp 32) 55 rfl w.heap.size 5 stBytes _ ([] ++ a ++ [10]) rfl HO2.out S3 B k d b rfl (HB.out _ HB2.out) hnb.out.symm (by have := hna'.out; simp; omega) HB2.out.size ?_; intro v3 w3 hown3 hg3 hat3; obtain ⟨B3, k3, d3, rfl, hk3, -, -⟩ := hown3.form; have HB3 := Lib.hid (below_own HB2.out HO2.out hg3 HB2.out.size); have HO3 := Lib.hid hown3; clear hown3 hg3 hat3))
  go_ret2
  refine ⟨B3, k3, d3, rfl, Lib.hid (by have := HO3.out; simpa using this), Lib.hid (by have := hk3.out; have := hna.out; have := hnb.out; simp at *; omega), HB3⟩
set_option maxRecDepth 100000 in
theorem behind_no (A B : Option Addr) (n c k d : Nat) (s : Hid (Sp w g S m A1 n1 c1 A2 n2 c2 p h)) (hn : n ≤ 140737488355328) (hk : k ≤ 140737488355328) (hm : m < n + 1 + k) :
    Calls Tryd.prog 53 #[.pointer (some ⟨g, 0, none⟩), .slice A n c, .slice B k d] w fun e w' => e = .returned (.tuple #[.slice none 0 0, .int .i64 62]) ∧ w = w' := by
  obtain ⟨h0, h1, h2, h3, f0, f1⟩ := s.out.cellsP
  have d1 : decide ((m : Int) < (n : Int) + 1 + (k : Int)) = true := decide_eq_true (by omega)
  go_enter Tryd.func53, Tryd.ntmps53
  go_wp2_with fail
  go_ret2
  exact ⟨rfl, rfl⟩
set_option maxRecDepth 100000 in
theorem join_any (A : Option Addr) (n c : Nat) (b : List UInt8) (S2 : Blocks) (s : Hid (Sp w g S m A1 n1 c1 A2 n2 c2 p h)) (hb : Hid (SliceAt Rep.byte w S2 A c b)) (hS2 : Hid (∀ x, S2 x → x < w.heap.size)) (hn : Hid (n = b.length)) (hbig : n ≤ 140737488355328) :
    Calls Tryd.prog 21 #[.pointer (some ⟨g, 0, none⟩), .slice A n c] w (DoPost kP 68 w g S m (Space.joinR m p h b)) := by
  obtain ⟨h0, h1, h2, h3, f0, f1⟩ := s.out.cellsP
  have hnn := s.out.le
  have hmm := s.out.hm
  go_enter Tryd.func21, Tryd.ntmps21
  go_wp2_with fail
  refine (none_no w g m n1 c1 n2 c2 S A1 A2 p h s).mono ?_
  rintro e w1 ⟨rfl, rfl⟩
  by_cases hm : n1 + 1 + n ≤ m
  · have HR : Hid (Space.joinR m p h b = (0, p ++ 10 :: b, h)) := Lib.hid (by rw [Space.joinR, if_pos (by rw [← hn.out, ← s.out.hp]; exact hm)])
    go_wp2_with fail
    refine (behind_yes w g m n1 c1 n2 c2 S A1 A2 p h A1 A n1 c1 n c p b S S2 s (Lib.hid s.out.tp) hb (Lib.hid s.out.hp) hn (Lib.hid fun x hx => (s.out.hS x hx).2) hS2 hm).mono ?_
    rintro e w1 ⟨A', n', c', rfl, HO, HN, HB⟩
    have s1 := s.out.far HB.out
    have HS1 := Lib.hid s1
    obtain ⟨r0, r1, r2, r3, r4, r5⟩ := s1.cellsP
    clear s1 h0 h1 h2 h3 f0 f1
    go_wp2_with fail
    go_ret
    rw [HR.out]
    obtain ⟨hl', hs⟩ := HO.out.above
    have hgl := s.out.glt
    refine ⟨rfl, grows S w.heap.size w1.heap.size, ⟨_, _, _, _, _, _, HS1.out.setP0 (fun _ => .inl) (fun x hx => ?_) (hs.up fun _ => .inr) hl' (by rw [HN.out]; exact hm)⟩, fun x hx => hx.imp id And.left, only_setG HB.out⟩
    rcases hx with hx | hx
    · exact ⟨(s.out.hS x hx).1, Nat.lt_of_lt_of_le (s.out.hS x hx).2 HB.out.size⟩
    · exact ⟨by have := hx.1; omega, hx.2⟩
  · have HR : Hid (Space.joinR m p h b = (62, p, h)) := Lib.hid (by rw [Space.joinR, if_neg (by rw [← hn.out, ← s.out.hp]; exact hm)])
    go_wp2_with fail
    refine (behind_no w g m n1 c1 n2 c2 S A1 A2 p h A1 A n1 c1 n c s (by omega) hbig (by omega)).mono ?_
    rintro e w1 ⟨rfl, rfl⟩
    go_wp2_with fail
    go_ret
    rw [HR.out]
    exact ⟨rfl, S, ⟨_, _, _, _, _, _, s.out⟩, fun _ h => .inl h, Only.refl _ _⟩
set_option maxRecDepth 100000 in
theorem get_any (s : Hid (Sp w g S m A1 n1 c1 A2 n2 c2 p h)) : Calls Tryd.prog 60 #[.pointer (some ⟨g, 0, none⟩)] w (DoPost kP 68 w g S m (0, h, h)) := by
  obtain ⟨h0, h1, h2, h3, f0, f1⟩ := s.out.cellsP
  go_enter Tryd.func60, Tryd.ntmps60
  go_wp2_with fail
  go_ret
  exact ⟨rfl, S, ⟨_, _, _, _, _, _, s.out.setP0 (fun _ h => h) s.out.hS s.out.th s.out.hh s.out.lh⟩, fun _ h => .inl h, only_setG (Below.refl _ _)⟩
set_option maxRecDepth 100000 in
theorem keep_any (s : Hid (Sp w g S m A1 n1 c1 A2 n2 c2 p h)) : Calls Tryd.prog 62 #[.pointer (some ⟨g, 0, none⟩)] w (DoPost kP 68 w g S m (0, p, p)) := by
  obtain ⟨h0, h1, h2, h3, f0, f1⟩ := s.out.cellsP
  go_enter Tryd.func62, Tryd.ntmps62
  go_wp2_with fail
  go_ret
  exact ⟨rfl, S, ⟨_, _, _, _, _, _, s.out.setP1 (fun _ h => h) s.out.hS s.out.tp s.out.hp s.out.lp⟩, fun _ h => .inl h, only_setG (Below.refl _ _)⟩
set_option maxRecDepth 100000 in
theorem getMore_any (s : Hid (Sp w g S m A1 n1 c1 A2 n2 c2 p h)) : Calls Tryd.prog 61 #[.pointer (some ⟨g, 0, none⟩)] w (DoPost kP 68 w g S m (Space.joinR m p h h)) := by
  obtain ⟨h0, h1, h2, h3, f0, f1⟩ := s.out.cellsP
  have hnn := s.out.le
  go_enter Tryd.func61, Tryd.ntmps61
  go_wp2_with fail
  refine (join_any w g m n1 c1 n2 c2 S A1 A2 p h A2 n2 c2 h S s (Lib.hid s.out.th) (Lib.hid fun x hx => (s.out.hS x hx).2) (Lib.hid s.out.hh) (by omega)).mono ?_
  rintro e w1 ⟨rfl, hr⟩
  have HR := Lib.hid hr
  clear hr
  obtain ⟨q, hq⟩ : ∃ q, q = (Space.joinR m p h h).1 := ⟨_, rfl⟩
  have HQ := Lib.hid hq
  rw [← hq]
  clear hq
  go_wp2_with fail
  go_ret
  exact ⟨by rw [HQ.out]; rfl, HR.out⟩
end
end Go.Proofs.YtejjmjbkpodolaaDoor
