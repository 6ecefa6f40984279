/- Words: blanks are passed over; the end of a command. The walks of words.Skip at the blanks, and of words.End. Condition: room. -/
import Derived.Test.YtooempbgpfhdcaaDoorWhile
import Derived.Laws.RangeAny
namespace Go.Proofs.YtooempbgpfhdcaaDoor
open Go.RowKit Go.ChangeShapes Go.WideShapes Go.Deep

def isBl (c : UInt8) : Bool := c.toNat == 32 || c.toNat == 9
abbrev blS : ByteArray := ⟨#[32, 9]⟩
theorem below_iter (w : World) (s : ByteArray) (p : Nat) : Below w.heap.size w (w.iter s p) := (Below.refl _ _).alloc (Nat.le_refl _) _
set_option maxRecDepth 100000 in
set_option maxHeartbeats 1000000 in
theorem skip1_any (W : World) (bs : Nat) (c : UInt8) (h : W.cell? ⟨bs, 0, none⟩ = some (.string ⟨#[32, 9]⟩)) :
    Calls Tryd.prog 28 #[.int .i32 c.toNat, .pointer (some ⟨bs, 0, none⟩)] W fun e W' => e = .returned (.bool (isBl c)) ∧ Below W.heap.size W W' := by
  have n0 : ∀ ty, (Instr.next (.pointer (some ⟨W.heap.size, 0, none⟩)) true ty).run Tryd.prog (W.iter ⟨#[32, 9]⟩ 0) = .ok (.tuple #[.bool true, .int .i64 0, .int .i32 32]) (W.iter ⟨#[32, 9]⟩ 1) := fun ty => run_next_ascii W ⟨#[32, 9]⟩ 0 ty (by decide) (by decide)
  have n1 : ∀ ty, (Instr.next (.pointer (some ⟨W.heap.size, 0, none⟩)) true ty).run Tryd.prog (W.iter ⟨#[32, 9]⟩ 1) = .ok (.tuple #[.bool true, .int .i64 1, .int .i32 9]) (W.iter ⟨#[32, 9]⟩ 2) := fun ty => run_next_ascii W ⟨#[32, 9]⟩ 1 ty (by decide) (by decide)
  have n2 : ∀ ty, (Instr.next (.pointer (some ⟨W.heap.size, 0, none⟩)) true ty).run Tryd.prog (W.iter ⟨#[32, 9]⟩ 2) = .ok (.tuple #[.bool false]) (W.iter ⟨#[32, 9]⟩ 2) := fun ty => run_next_end W ⟨#[32, 9]⟩ 2 ty (by decide)
  have B1 := Lib.hid (below_iter W ⟨#[32, 9]⟩ 1)
  have B2 := Lib.hid (below_iter W ⟨#[32, 9]⟩ 2)
  have hc := c.toNat_lt
  by_cases h32 : c.toNat = 32
  · have hb : isBl c = true := by simp [isBl, h32]
    rw [hb]
    have d0 : ((32 : Int) == (c.toNat : Int)) = true := by rw [beq_iff_eq]; omega
    have e0 : ((c.toNat : Int)) = 32 := by omega
    rw [e0]
    clear hb d0 e0 h32
    go_enter Tryd.func28, Tryd.ntmps28
    go_wp2_with fail
    refine wp_loop_rounds 1 ?_
    rw [rounds_succ]
    go_wp2_with fail
    go_ret
    exact ⟨rfl, B1.out⟩
  · by_cases h9 : c.toNat = 9
    · have hb : isBl c = true := by simp [isBl, h9]
      rw [hb]
      have e0 : ((c.toNat : Int)) = 9 := by omega
      rw [e0]
      clear hb e0 h32 h9
      go_enter Tryd.func28, Tryd.ntmps28
      go_wp2_with fail
      refine wp_loop_rounds 2 ?_
      rw [rounds_succ]
      go_wp2_with fail
      rw [rounds_succ]
      go_wp2_with fail
      go_ret
      exact ⟨rfl, B2.out⟩
    · have hb : isBl c = false := by simp [isBl, h32, h9]
      rw [hb]
      have d0 : ((32 : Int) == (c.toNat : Int)) = false := by rw [beq_eq_false_iff_ne]; omega
      have d1 : ((9 : Int) == (c.toNat : Int)) = false := by rw [beq_eq_false_iff_ne]; omega
      clear hb
      go_enter Tryd.func28, Tryd.ntmps28
      go_wp2_with fail
      refine wp_loop_rounds 3 ?_
      rw [rounds_succ]
      go_wp2_with fail
      rw [rounds_succ]
      go_wp2_with fail
      rw [rounds_succ]
      go_wp2_with fail
      go_ret
      exact ⟨rfl, B2.out⟩
set_option maxRecDepth 100000 in
set_option maxHeartbeats 4000000 in
theorem while_skip (g n c : Nat) (A : Option Addr) (l : List UInt8) (p0 : Nat) (thr : UInt8 → Bool) (c1 : Value) (I : Nat → Nat → World → Prop)
    (hW : Hid (∀ k p W, I k p W → Wd W g A n c l p)) (hF : Hid (∀ k p W W', I k p W → Below W.heap.size W W' → I k p W')) (hS : Hid (∀ k p W, I k p W → p < n → I k (p + 1) (W.setCell ⟨g, 1, none⟩ (.int .i64 ((p : Int) + 1)))))
    (hC : Hid (∀ k W (hp : p0 + k < l.length), I k (p0 + k) W → Calls Tryd.prog 28 #[.int .i32 l[p0 + k].toNat, c1] W fun e W' => e = .returned (.bool (thr l[p0 + k])) ∧ I (if thr l[p0 + k] then k + 1 else k) (p0 + k) W'))
    (w : World) (h0 : Hid (I 0 p0 w)) (hn : n ≤ 4611686018427387904) :
    Calls Tryd.prog 21 #[.pointer (some ⟨g, 0, none⟩), .func (.func 18) #[.pointer (some ⟨g, 0, none⟩)] #[], .func (.func 28) #[] #[c1]] w fun e w' => e = .returned (.int .i64 (lead thr (l.drop p0))) ∧ Hid (I (lead thr (l.drop p0)) (p0 + lead thr (l.drop p0)) w') := by
  have hp0 := (hW.out _ _ _ h0.out).hp
  obtain ⟨m, hm⟩ : ∃ m, m = lead thr (l.drop p0) := ⟨_, rfl⟩
  rw [← hm]
  have HM : Hid (lead thr (l.drop (p0 + 0)) + 0 = m) := Lib.hid (by rw [hm]; rfl)
  clear hm
  go_enter Tryd.func21, Tryd.ntmps21
  go_wp2_with fail
  refine (peek_any w g n c p0 A l (Lib.hid (hW.out _ _ _ h0.out))).mono ?_
  rintro e w1 ⟨b, o, rfl, HP, hb⟩
  have HI := Lib.hid (hF.out _ _ _ _ h0.out hb)
  clear hb
  go_wp2_with fail
  go_loopg [7, 8, 9] (n - p0) (fun j v7 v8 v9 wr => ∃ (k : Nat) (b : Int) (o : Bool), p0 + k ≤ n ∧ j = n - p0 - k ∧ v7 = .int .i64 k ∧ v8 = .int .u8 b ∧ v9 = .bool o ∧ Hid (Pk l (p0 + k) b o) ∧ Hid (I k (p0 + k) wr) ∧ Hid (lead thr (l.drop (p0 + k)) + k = m))
  case atStart => exact ⟨0, b, o, by omega, by omega, rfl, rfl, rfl, HP, HI, HM⟩
  case round =>
    clear HP HI HM
    obtain ⟨k, b, o, hk, rfl, rfl, rfl, rfl, HP, HI, HM⟩ := hrel
    have HWD := Lib.hid (hW.out _ _ _ HI.out)
    rcases HP.out with ⟨hp, rfl, rfl⟩ | ⟨hp, rfl, rfl⟩
    · have HC := Lib.hid (hC.out k wr hp HI.out)
      have hpn : p0 + k < n := by have := HWD.out.hn; omega
      have hx : l[p0 + k].toNat < 256 := l[p0 + k].toNat_lt
      have hdr : l.drop (p0 + k) = l[p0 + k] :: l.drop (p0 + k + 1) := List.drop_eq_getElem_cons hp
      cases ht : thr l[p0 + k] with
      | false =>
        have hl : lead thr (l.drop (p0 + k)) = 0 := by rw [hdr]; simp [lead, ht]
        have hkm : k = m := by have := HM.out; omega
        subst hkm
        rw [ht] at HC
        simp only [Bool.false_eq_true, if_false] at HC
        clear hl hdr ht
        go_wp2_with fail
        refine HC.out.mono ?_
        rintro e w2 ⟨rfl, hI⟩
        have HI2 := Lib.hid hI
        clear hI
        go_wp2_with fail
        go_ret
        exact ⟨rfl, HI2⟩
      | true =>
        have HL : Hid (lead thr (l.drop (p0 + k)) = lead thr (l.drop (p0 + k + 1)) + 1) := Lib.hid (by rw [hdr]; simp [lead, ht])
        rw [ht] at HC
        simp only [if_true] at HC
        clear hdr ht
        go_wp2_with fail
        refine HC.out.mono ?_
        rintro e w2 ⟨rfl, hI⟩
        have HI2 := Lib.hid hI
        have HW2 := Lib.hid (hW.out _ _ _ hI)
        clear hI
        obtain ⟨q0, q1, q2, q3⟩ := HW2.out.cells
        have HI3 := Lib.hid (hS.out _ _ _ HI2.out hpn)
        have HW3 := Lib.hid (hW.out _ _ _ HI3.out)
        have HPK := Lib.hid (peek_any _ g n c (p0 + k + 1) A l HW3)
        have e1 : ((p0 + k : Nat) : Int) + 1 = (p0 : Int) + k + 1 := by omega
        rw [e1] at HPK HI3
        clear e1
        go_wp2_with fail
        refine HPK.out.mono ?_
        rintro e w3 ⟨b, o, rfl, HP3, hb3⟩
        have HI4 := Lib.hid (hF.out _ _ _ _ HI3.out hb3)
        clear hb3
        go_wp2_with fail
        go_roundg (n - p0 - (k + 1))
        case measure => omega
        case rel => exact ⟨k + 1, b, o, by omega, rfl, by go_num, rfl, rfl, HP3, HI4, Lib.hid (by have := HM.out; have := HL.out; show lead thr (l.drop (p0 + k + 1)) + (k + 1) = m; omega)⟩
    · have hkm : k = m := by
        have h2 := HM.out
        rw [List.drop_of_length_le (by omega)] at h2
        simpa [lead] using h2
      subst hkm
      clear hp
      go_wp2_with fail
      go_ret
      exact ⟨rfl, HI⟩

def SInv (w : World) (g n c : Nat) (A : Option Addr) (l : List UInt8) (bs : Nat) (_k q : Nat) (W : World) : Prop :=
  Wd W g A n c l q ∧ W.heap[bs]? = some (.cells #[.string ⟨#[32, 9]⟩] 9) ∧ Only (fun b => b = g ∨ w.heap.size ≤ b) w W
set_option maxRecDepth 100000 in
set_option maxHeartbeats 2000000 in
theorem skip_blanks (w : World) (g n c p : Nat) (A : Option Addr) (l : List UInt8) (h : Hid (Wd w g A n c l p)) (hb : n ≤ 4611686018427387904) :
    Calls Tryd.prog 19 #[.pointer (some ⟨g, 0, none⟩), .string ⟨#[32, 9]⟩] w fun e w' => e = .returned (.int .i64 (lead isBl (l.drop p))) ∧ Hid (Wd w' g A n c l (p + lead isBl (l.drop p))) ∧ Hid (Only (fun b => b = g) w w') := by
  have hglt := h.out.glt
  obtain ⟨W0, hW0⟩ : ∃ W0, W0 = w.alloc (.cells #[.string ⟨#[32, 9]⟩] 9) := ⟨_, rfl⟩
  have hb0 : Below w.heap.size w W0 := by rw [hW0]; exact (Below.refl _ _).alloc (Nat.le_refl _) _
  have hbs : W0.heap[w.heap.size]? = some (.cells #[.string ⟨#[32, 9]⟩] 9) := by rw [hW0]; exact heap_alloc_new _ _
  have hI0 : SInv w g n c A l w.heap.size 0 p W0 := ⟨h.out.far hb0, hbs, Only.of_below hb0 _⟩
  have HWH := while_skip g n c A l p isBl (.pointer (some ⟨w.heap.size, 0, none⟩)) (SInv w g n c A l w.heap.size)
    (Lib.hid fun k q W hI => hI.1) (Lib.hid fun k q W W' hI hb => ⟨hI.1.far hb, (hb.block _ (Array.getElem?_eq_some_iff.1 hI.2.1).1).trans hI.2.1, hI.2.2.trans (Only.of_below hb (fun _ => False)) fun _ h => h.elim⟩)
    (Lib.hid fun k q W hI hq => ⟨by have := hI.1.set (q := q + 1) (by omega); simpa using this, (Below.heap_setCell W ⟨g, 1, none⟩ _ _ (by simp only; omega)).trans hI.2.1, hI.2.2.setCell (p := ⟨g, 1, none⟩) (.inl (.inl rfl)) _⟩)
    (Lib.hid fun k W hp hI => by
      refine (skip1_any W w.heap.size l[p + k] (by have := cell_of_row W _ 0 _ _ (0, 0) hI.2.1; simpa using this)).mono ?_
      rintro e W' ⟨rfl, hb⟩
      exact ⟨rfl, hI.1.far hb, (hb.block _ (Array.getElem?_eq_some_iff.1 hI.2.1).1).trans hI.2.1, hI.2.2.trans (Only.of_below hb (fun _ => False)) fun _ h => h.elim⟩) W0 (Lib.hid hI0) hb
  have HWH := Lib.hid HWH
  have HW0 := Lib.hid hW0
  rw [hW0] at HWH
  have HWD := Lib.hid (h.out.far ((Below.refl _ w).alloc (Nat.le_refl _) (.cells #[.string ⟨#[32, 9]⟩] 9)))
  clear hW0 hb0 hbs hI0
  go_enter Tryd.func19, Tryd.ntmps19
  go_wp2_with fail
  refine (none_no _ g n c p A l HWD).mono ?_
  rintro e w' ⟨rfl, rfl⟩
  go_wp2_with fail
  refine HWH.out.mono ?_
  clear HWH HWD
  rintro e w' ⟨rfl, HI⟩
  go_wp2_with fail
  go_ret
  exact ⟨rfl, Lib.hid HI.out.1, Lib.hid ⟨HI.out.2.2.os, HI.out.2.2.tape, HI.out.2.2.output, HI.out.2.2.size, fun x hx hn => HI.out.2.2.block x hx (by intro e; rcases e with e | e; exact hn e; omega)⟩⟩
set_option maxRecDepth 100000 in
set_option maxHeartbeats 1000000 in
/-- End, where a semicolon stands behind the blanks. -/
theorem end_semi (w : World) (g n c p q : Nat) (A : Option Addr) (l : List UInt8) (h : Hid (Wd w g A n c l p)) (hb : n ≤ 4611686018427387904) (hq : Hid (p + lead isBl (l.drop p) = q)) (hql : q < l.length) (h59 : Hid (l[q].toNat = 59)) :
    Calls Tryd.prog 14 #[.pointer (some ⟨g, 0, none⟩)] w fun e w' => e = .returned (.int .i64 0) ∧ Hid (Wd w' g A n c l (q + 1)) ∧ Hid (Only (fun b => b = g) w w') := by
  have hqn : q < n := by have := h.out.hn; omega
  go_enter Tryd.func14, Tryd.ntmps14
  go_wp2_with fail
  refine (none_no _ g n c p A l h).mono ?_
  rintro e w' ⟨rfl, rfl⟩
  go_wp2_with fail
  refine (skip_blanks w g n c p A l h hb).mono ?_
  rintro e w1 ⟨rfl, HW, HO⟩
  rw [hq.out] at HW
  go_wp2_with fail
  have HPK := Lib.hid (peek_yes w1 g n c q A l HW hql)
  rw [h59.out] at HPK
  refine HPK.out.mono ?_
  clear HPK
  rintro e w2 ⟨rfl, hb2⟩
  have HW2 := Lib.hid (HW.out.far hb2)
  have HB2 := Lib.hid hb2
  clear hb2
  obtain ⟨q0, q1, q2, q3⟩ := HW2.out.cells
  go_wp2_with fail
  go_ret
  refine ⟨rfl, Lib.hid ?_, Lib.hid ((HO.out.trans (Only.of_below HB2.out (fun b => b = g)) fun x hx => .inl hx).setCell (p := ⟨g, 1, none⟩) (.inl rfl) _)⟩
  have := HW2.out.set (q := q + 1) (by omega)
  simpa using this
end Go.Proofs.YtooempbgpfhdcaaDoor
