/- Words: numbers. The walks of words.while and words.Number. Condition: room. -/
import Derived.Test.YtooempbgpfhdcaaDoorWords
namespace Go.Proofs.YtooempbgpfhdcaaDoor
open Go.RowKit Go.ChangeShapes Go.WideShapes Go.Deep

/-- What Peek answers. -/
def Pk (l : List UInt8) (p : Nat) (b : Int) (o : Bool) : Prop := (∃ h : p < l.length, b = l[p].toNat ∧ o = true) ∨ (p = l.length ∧ b = 0 ∧ o = false)
theorem peek_any (w : World) (g n c p : Nat) (A : Option Addr) (l : List UInt8) (h : Hid (Wd w g A n c l p)) : Calls Tryd.prog 18 #[.pointer (some ⟨g, 0, none⟩)] w fun e w' => ∃ (b : Int) (o : Bool), e = .returned (.tuple #[.int .u8 b, .bool o]) ∧ Hid (Pk l p b o) ∧ Below w.heap.size w w' := by
  by_cases hp : p < l.length
  · refine (peek_yes w g n c p A l h hp).mono ?_
    rintro e w' ⟨rfl, hb⟩
    exact ⟨_, _, rfl, Lib.hid (.inl ⟨hp, rfl, rfl⟩), hb⟩
  · have hpe : p = l.length := by have := h.out.hp; have := h.out.hn; omega
    refine (peek_no w g n c p A l h hpe).mono ?_
    rintro e w' ⟨rfl, hb⟩
    exact ⟨_, _, rfl, Lib.hid (.inr ⟨hpe, rfl, rfl⟩), hb⟩
/-- How many bytes ahead are let through. -/
def lead (thr : UInt8 → Bool) : List UInt8 → Nat
  | [] => 0
  | c :: r => if thr c then lead thr r + 1 else 0
set_option maxRecDepth 100000 in
set_option maxHeartbeats 4000000 in
theorem while_number (g n c : Nat) (A : Option Addr) (l : List UInt8) (p0 : Nat) (thr : UInt8 → Bool) (c1 c2 c3 : Value) (I : Nat → Nat → World → Prop)
    (hW : Hid (∀ k p W, I k p W → Wd W g A n c l p)) (hF : Hid (∀ k p W W', I k p W → Below W.heap.size W W' → I k p W')) (hS : Hid (∀ k p W, I k p W → p < n → I k (p + 1) (W.setCell ⟨g, 1, none⟩ (.int .i64 ((p : Int) + 1)))))
    (hC : Hid (∀ k W (hp : p0 + k < l.length), I k (p0 + k) W → Calls Tryd.prog 22 #[.int .i32 l[p0 + k].toNat, c1, c2, c3] W fun e W' => e = .returned (.bool (thr l[p0 + k])) ∧ I (if thr l[p0 + k] then k + 1 else k) (p0 + k) W'))
    (w : World) (h0 : Hid (I 0 p0 w)) (hn : n ≤ 4611686018427387904) :
    Calls Tryd.prog 21 #[.pointer (some ⟨g, 0, none⟩), .func (.func 18) #[.pointer (some ⟨g, 0, none⟩)] #[], .func (.func 22) #[] #[c1, c2, c3]] w fun e w' => e = .returned (.int .i64 (lead thr (l.drop p0))) ∧ Hid (I (lead thr (l.drop p0)) (p0 + lead thr (l.drop p0)) w') := by
  have hp0 := (hW.out _ _ _ h0.out).hp
  obtain ⟨m, hm⟩ : ∃ m, m = lead thr (l.drop p0) := ⟨_, rfl⟩
  rw [← hm]
  have HM : Hid (lead thr (l.drop (p0 + 0)) + 0 = m) := Lib.hid (by rw [hm]; rfl)
  clear hm
  go_enter Tryd.func21, Tryd.ntmps21
  go_wp2_with fail
  refine (peek_any w g n c p0 A l (Lib.hid (hW.out _ _ _ h0.out))).mono ?_
  rintro e w1 ⟨b, o, rfl, HP, hb⟩
  have HI := Lib.hid (hF.out _ _ _ _ h0.out hb)
  clear hb
  go_wp2_with fail
  go_loopg [7, 8, 9] (n - p0) (fun j v7 v8 v9 wr => ∃ (k : Nat) (b : Int) (o : Bool), p0 + k ≤ n ∧ j = n - p0 - k ∧ v7 = .int .i64 k ∧ v8 = .int .u8 b ∧ v9 = .bool o ∧ Hid (Pk l (p0 + k) b o) ∧ Hid (I k (p0 + k) wr) ∧ Hid (lead thr (l.drop (p0 + k)) + k = m))
  case atStart => exact ⟨0, b, o, by omega, by omega, rfl, rfl, rfl, HP, HI, HM⟩
  case round =>
    clear HP HI HM
    obtain ⟨k, b, o, hk, rfl, rfl, rfl, rfl, HP, HI, HM⟩ := hrel
    have HWD := Lib.hid (hW.out _ _ _ HI.out)
    rcases HP.out with ⟨hp, rfl, rfl⟩ | ⟨hp, rfl, rfl⟩
    · have HC := Lib.hid (hC.out k wr hp HI.out)
      have hpn : p0 + k < n := by have := HWD.out.hn; omega
      have hx : l[p0 + k].toNat < 256 := l[p0 + k].toNat_lt
      have hdr : l.drop (p0 + k) = l[p0 + k] :: l.drop (p0 + k + 1) := List.drop_eq_getElem_cons hp
      cases ht : thr l[p0 + k] with
      | false =>
        have hl : lead thr (l.drop (p0 + k)) = 0 := by rw [hdr]; simp [lead, ht]
        have hkm : k = m := by have := HM.out; omega
        subst hkm
        rw [ht] at HC
        simp only [Bool.false_eq_true, if_false] at HC
        clear hl hdr ht
        go_wp2_with fail
        refine HC.out.mono ?_
        rintro e w2 ⟨rfl, hI⟩
        have HI2 := Lib.hid hI
        clear hI
        go_wp2_with fail
        go_ret
        exact ⟨rfl, HI2⟩
      | true =>
        have HL : Hid (lead thr (l.drop (p0 + k)) = lead thr (l.drop (p0 + k + 1)) + 1) := Lib.hid (by rw [hdr]; simp [lead, ht])
        rw [ht] at HC
        simp only [if_true] at HC
        clear hdr ht
        go_wp2_with fail
        refine HC.out.mono ?_
        rintro e w2 ⟨rfl, hI⟩
        have HI2 := Lib.hid hI
        have HW2 := Lib.hid (hW.out _ _ _ hI)
        clear hI
        obtain ⟨q0, q1, q2, q3⟩ := HW2.out.cells
        have HI3 := Lib.hid (hS.out _ _ _ HI2.out hpn)
        have HW3 := Lib.hid (hW.out _ _ _ HI3.out)
        have HPK := Lib.hid (peek_any _ g n c (p0 + k + 1) A l HW3)
        have e1 : ((p0 + k : Nat) : Int) + 1 = (p0 : Int) + k + 1 := by omega
        rw [e1] at HPK HI3
        clear e1
        go_wp2_with fail
        refine HPK.out.mono ?_
        rintro e w3 ⟨b, o, rfl, HP3, hb3⟩
        have HI4 := Lib.hid (hF.out _ _ _ _ HI3.out hb3)
        clear hb3
        go_wp2_with fail
        go_roundg (n - p0 - (k + 1))
        case measure => omega
        case rel => exact ⟨k + 1, b, o, by omega, rfl, by go_num, rfl, rfl, HP3, HI4, Lib.hid (by have := HM.out; have := HL.out; show lead thr (l.drop (p0 + k + 1)) + (k + 1) = m; omega)⟩
    · have hkm : k = m := by
        have h2 := HM.out
        rw [List.drop_of_length_le (by omega)] at h2
        simpa [lead] using h2
      subst hkm
      clear hp
      go_wp2_with fail
      go_ret
      exact ⟨rfl, HI⟩

end Go.Proofs.YtooempbgpfhdcaaDoor
