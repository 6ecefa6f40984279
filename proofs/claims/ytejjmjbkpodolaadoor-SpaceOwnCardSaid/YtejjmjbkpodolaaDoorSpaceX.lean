/- The program's space, whatever its rows' places: what each call answers and leaves. Condition: room. -/
import Derived.Test.YtejjmjbkpodolaaDoorSpace3
namespace Go.Proofs.YtejjmjbkpodolaaDoor
open Go.RowKit Go.ChangeShapes Go.WideShapes Go.Deep

abbrev SpP := SpX kP 68
/-- A space somewhere. -/
def Spc (K : Nat → Value → Value → Array Value) (T : TypeId) (w : World) (g m : Nat) (p h : List UInt8) : Prop := ∃ S, SpX K T w g S m p h
section
variable {K : Nat → Value → Value → Array Value} {T : TypeId} {w w' : World} {g m : Nat} {S S' : Blocks} {p h : List UInt8}
theorem Spc.far (s : Spc K T w g m p h) (hb : Below w.heap.size w w') : Spc K T w' g m p h := by
  obtain ⟨S, s⟩ := s
  exact ⟨S, s.far hb⟩
theorem Spc.glt (s : Spc K T w g m p h) : g < w.heap.size := by
  obtain ⟨S, s⟩ := s
  exact s.glt
theorem Spc.fits (s : Spc K T w g m p h) : Space.Fits m p h ∧ m ≤ 1048576 := by
  obtain ⟨S, s⟩ := s
  exact s.fits
theorem Turned.spc (s : Turned K T w g S m p h w') : Spc K T w' g m p h := by
  obtain ⟨S', s, -, -⟩ := s
  exact ⟨S', s⟩
theorem Turned.only (s : Turned K T w g S m p h w') : Only (fun b => b = g) w w' := by
  obtain ⟨S', -, -, s⟩ := s
  exact s
end
/-- What a call that may turn a space leaves, wherever. -/
def Left (K : Nat → Value → Value → Array Value) (T : TypeId) (w : World) (g m : Nat) (R : Space.R) (e : Ending) (w' : World) : Prop :=
  ∃ q, e = .returned (.int .i64 q) ∧ Hid (q = R.1) ∧ Hid (Spc K T w' g m R.2.1 R.2.2) ∧ Hid (Only (fun b => b = g) w w')
theorem DoPost.left {K : Nat → Value → Value → Array Value} {T : TypeId} {w w' : World} {g m : Nat} {S : Blocks} {R : Space.R} {e : Ending} (h : DoPost K T w g S m R e w') : Left K T w g m R e w' := by
  obtain ⟨he, S', hs, hS, ho⟩ := h
  exact ⟨_, he, Lib.hid rfl, Lib.hid ⟨S', hs⟩, Lib.hid ho⟩
section
variable (w : World) (g m : Nat) (p h : List UInt8)
theorem xpattern (s : Hid (Spc kP 68 w g m p h)) : Calls Tryd.prog 9 #[.pointer (some ⟨g, 0, none⟩)] w fun e w' => ∃ A n c, e = .returned (.slice A n c) ∧ n ≤ c ∧ c ≤ 9223372036854775807 ∧ Hid (n = p.length) ∧ Hid (Own Rep.byte 5 w' w.heap.size nob (.slice A n c) p) ∧ Hid (Below w.heap.size w w') := by
  obtain ⟨S, A1, n1, c1, A2, n2, c2, s⟩ := s.out
  refine (pattern_any w g m n1 c1 n2 c2 S A1 A2 p h (Lib.hid s)).mono ?_
  rintro e w' ⟨A, c, rfl, k1, k2, HO, HB⟩
  exact ⟨A, n1, c, rfl, k1, k2, Lib.hid s.hp, HO, HB⟩
theorem xhold (s : Hid (Spc kP 68 w g m p h)) : Calls Tryd.prog 10 #[.pointer (some ⟨g, 0, none⟩)] w fun e w' => ∃ A n c, e = .returned (.slice A n c) ∧ n ≤ c ∧ c ≤ 9223372036854775807 ∧ Hid (n = h.length) ∧ Hid (Own Rep.byte 5 w' w.heap.size nob (.slice A n c) h) ∧ Hid (Below w.heap.size w w') := by
  obtain ⟨S, A1, n1, c1, A2, n2, c2, s⟩ := s.out
  refine (hold_any w g m n1 c1 n2 c2 S A1 A2 p h (Lib.hid s)).mono ?_
  rintro e w' ⟨A, c, rfl, k1, k2, HO, HB⟩
  exact ⟨A, n2, c, rfl, k1, k2, Lib.hid s.hh, HO, HB⟩
theorem xfirst (s : Hid (Spc kP 68 w g m p h)) : Calls Tryd.prog 11 #[.pointer (some ⟨g, 0, none⟩)] w fun e w' => ∃ A n c, e = .returned (.tuple #[.slice A n c, .bool (decide ((10 : UInt8) ∈ p))]) ∧ n ≤ c ∧ c ≤ 9223372036854775807 ∧ Hid (n = (Space.firstR p).length) ∧ Hid (Own Rep.byte 5 w' w.heap.size nob (.slice A n c) (Space.firstR p)) ∧ Hid (Below w.heap.size w w') := by
  obtain ⟨S, A1, n1, c1, A2, n2, c2, s⟩ := s.out
  exact first_any w g m n1 c1 n2 c2 S A1 A2 p h (Lib.hid s)
theorem xcut (s : Hid (Spc kP 68 w g m p h)) : Calls Tryd.prog 18 #[.pointer (some ⟨g, 0, none⟩)] w fun e w' => e = .returned (.bool (decide ((10 : UInt8) ∈ p))) ∧ Hid (Spc kP 68 w' g m (Space.cutR p) h) ∧ Hid (Only (fun b => b = g) w w') := by
  obtain ⟨S, A1, n1, c1, A2, n2, c2, s⟩ := s.out
  refine (cut_any w g m n1 c1 n2 c2 S A1 A2 p h (Lib.hid s)).mono ?_
  rintro e w' ⟨rfl, hs, ho⟩
  exact ⟨rfl, Lib.hid ⟨S, hs.out⟩, ho⟩
theorem xput (A : Option Addr) (n c : Nat) (b : List UInt8) (S2 : Blocks) (s : Hid (Spc kP 68 w g m p h)) (hb : Hid (SliceAt Rep.byte w S2 A c b)) (hn : Hid (n = b.length)) (hbig : n ≤ 140737488355328) :
    Calls Tryd.prog 16 #[.pointer (some ⟨g, 0, none⟩), .slice A n c] w (Left kP 68 w g m (Space.putR m p h b)) := by
  obtain ⟨S, A1, n1, c1, A2, n2, c2, s⟩ := s.out
  exact (put_any w g m n1 c1 n2 c2 S A1 A2 p h A n c b S2 (Lib.hid s) hb hn hbig).mono fun _ _ h => h.left
theorem xjoin (A : Option Addr) (n c : Nat) (b : List UInt8) (S2 : Blocks) (s : Hid (Spc kP 68 w g m p h)) (hb : Hid (SliceAt Rep.byte w S2 A c b)) (hS2 : Hid (∀ x, S2 x → x < w.heap.size)) (hn : Hid (n = b.length)) (hbig : n ≤ 140737488355328) :
    Calls Tryd.prog 21 #[.pointer (some ⟨g, 0, none⟩), .slice A n c] w (Left kP 68 w g m (Space.joinR m p h b)) := by
  obtain ⟨S, A1, n1, c1, A2, n2, c2, s⟩ := s.out
  exact (join_any w g m n1 c1 n2 c2 S A1 A2 p h A n c b S2 (Lib.hid s) hb hS2 hn hbig).mono fun _ _ h => h.left
theorem xdo (x : UInt8) (s : Hid (Spc kP 68 w g m p h)) :
    Calls Tryd.prog 17 #[.pointer (some ⟨g, 0, none⟩), .int .u8 x.toNat] w (Left kP 68 w g m (Space.doR m p h x)) := by
  obtain ⟨S, A1, n1, c1, A2, n2, c2, s⟩ := s.out
  exact (do_any w g m n1 c1 n2 c2 S A1 A2 p h x (Lib.hid s)).mono fun _ _ h => h.left
end
theorem xnew (w : World) (m : Nat) (hm : m ≤ 1048576) : Calls Tryd.prog 6 #[.int .i64 m] w fun e w' => ∃ g, e = .returned (.tuple #[.pointer (some ⟨g, 0, none⟩), .int .i64 0]) ∧ w.heap.size ≤ g ∧ Hid (Spc kP 68 w' g m [] []) ∧ Hid (Below w.heap.size w w') := by
  refine (new_ok w m hm).mono ?_
  rintro e w' ⟨g, rfl, hg, hs, hb⟩
  exact ⟨g, rfl, hg, Lib.hid ⟨_, hs.out⟩, hb⟩
end Go.Proofs.YtejjmjbkpodolaaDoor
