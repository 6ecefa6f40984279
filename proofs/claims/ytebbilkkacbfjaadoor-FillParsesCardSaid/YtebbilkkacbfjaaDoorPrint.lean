/- A replacement written: the walks of fill.Print and of its function value. Condition: what is written is at most 2^34 marks. -/
import Derived.Test.YtebbilkkacbfjaaDoorProg
import Derived.Test.YtebbilkkacbfjaaDoorShaped16
import Derived.Test.YtebbilkkacbfjaaDoorFillPlain
import Derived.Test.YtebbilkkacbfjaaDoorOnly
import Derived.WalkKit
import Derived.WalkSpells
import Derived.Deep.QuietTactic
import Derived.BigQuiet
import Derived.Lib.Hide
import Derived.Deep.DeepMust
import Derived.OneCell
namespace Go.Proofs.YtebbilkkacbfjaaDoor
open Go.RowKit

theorem stMarks' : SliceType Tryd.prog 22 34 2 2 := SliceType.mk' (z := .agg #[.int .u8 0, .bool false]) Tryd.underlying22 (by kernel_rfl) rfl (by omega)
/-- The captured variable: a block of one cell. -/
def Var1 (w : World) (g : Nat) (t : TypeId) (v : Value) : Prop := w.heap[g]? = some (.cells #[v] t (0, 0))

/-- put: the bytes of s behind what the captured variable holds. -/
theorem put_any (B g : Nat) (v : Value) (A : Option Addr) (n c : Nat) (s l : List UInt8) (w : World) (S : Blocks) (hn : n = s.length) (hg : B ≤ g) (_ : B ≤ w.heap.size) (hv : Var1 w g 22 v) (ho : Own Rep.mark 34 w B nob v (bare l))
    (hs : SliceAt Rep.byte w S A c s) (hS : ∀ b, S b → b < w.heap.size ∧ b ≠ g ∧ some b ≠ v.ownBlock) (hl : l.length + s.length ≤ 17179869184) :
    Calls Tryd.prog 64 #[.slice A n c, .pointer (some ⟨g, 0, none⟩)] w fun e w' => e = .returned (.tuple #[]) ∧ ∃ v', Var1 w' g 22 v' ∧ Own Rep.mark 34 w' B nob v' (bare (l ++ s)) ∧
      Only (fun b => b = g ∨ some b = v.ownBlock) w w' ∧ (v'.ownBlock = v.ownBlock ∨ ∃ q, v'.ownBlock = some q ∧ w.heap.size ≤ q) := by
  have hnc : n ≤ c := by rw [hn]; exact hs.len
  have hcm := hs.max
  have HS := Lib.hid hs
  have HN := Lib.hid hn
  have HV := Lib.hid hv
  have HO := Lib.hid ho
  have HSS := Lib.hid hS
  clear hs hn hv ho hS
  go_enter Tryd.func64, Tryd.ntmps64
  go_wp2
  go_loopw [7] (fun i wr => ∃ (k : Nat) (v1 : Value), k ≤ n ∧ i = .int .i64 k ∧ Var1 wr g 22 v1 ∧ Own Rep.mark 34 wr B nob v1 (bare (l ++ s.take k)) ∧ Only (fun b => b = g ∨ some b = v.ownBlock) w wr ∧ (v1.ownBlock = v.ownBlock ∨ ∃ q, v1.ownBlock = some q ∧ w.heap.size ≤ q)) (fun i _ => n - (intOf i).toNat)
  case atStart => exact ⟨0, v, Nat.zero_le _, rfl, HV.out, by simpa using HO.out, Only.refl _ _, .inl rfl⟩
  case round =>
    obtain ⟨k, v1, hk, rfl, hv1, ho1, hon, hat⟩ := hrel
    have HON := Lib.hid hon
    have HAT := Lib.hid hat
    have HO1 := Lib.hid ho1
    have HV1 := Lib.hid hv1
    by_cases hlt : k < n
    · have hks : k < s.length := by have := HN.out; omega
      obtain ⟨gs, os, rfl, hSg, hc0⟩ := HS.out.byte hks
      have hcw : wr.cell? ⟨gs, os + k, none⟩ = some (.int .u8 s[k].toNat) := (World.cell?_of_block (hon.block gs (HSS.out gs hSg).1 (by rintro (h | h); exact (HSS.out gs hSg).2.1 h; exact (HSS.out gs hSg).2.2 h))).trans hc0
      have hcg : wr.cell? ⟨g, 0, none⟩ = some v1 := cell_of_row wr g 0 #[v1] _ (0, 0) hv1
      obtain ⟨A1, n1, c1, rfl, hn1, hn1c, hc1m⟩ := ho1.form
      have hneg : (Value.slice A1 n1 c1).ownBlock ≠ some g := ho1.ne_block hv1 (by decide)
      have hgl : g < wr.heap.size := (Array.getElem?_eq_some_iff.1 hv1).1
      have HNEG := Lib.hid hneg
      have hfg : wr.frozen? ⟨g, 0, none⟩ = false := by
        have h := hv1
        unfold Var1 at h
        simp [World.frozen?, h]
      have hln : (bare (l ++ s.take k)).length ≤ 17179869184 := by simp [bare]; omega
      have HLN := Lib.hid hln
      have hnew := SliceAt.new1 Rep.mark wr 34 #[.int .u8 s[k].toNat, .bool false] ⟨s[k], false⟩ nob ⟨[.int .u8 s[k].toNat], [.bool false], rfl, rfl, rfl⟩ (fun _ h => h.elim)
      have HNEW := Lib.hid hnew
      have hsn : bare (l ++ s.take (k + 1)) = bare (l ++ s.take k) ++ [⟨s[k], false⟩] := by
        rw [List.take_succ_eq_append_getElem hks, ← List.append_assoc, bare_append]; rfl
      have HSN := Lib.hid hsn
      clear hon hat ho1 hv1 hc0 hneg hln hnew hsn
      go_wp2_with (at_builtin; refine wpList_append_Own _ rfl (.tmp 11) (.tmp 14) 22 rfl Rep.mark B 34 2 stMarks' nob _ _ rfl (HO1.out.alloc _) _ _ _ [⟨s[k], false⟩] rfl HNEW.out nob (fun _ h => h.elim) (fun _ h => h) (fun _ _ h => h) (by have := HLN.out; simp; omega) (by have := HLN.out; simp; omega) (by simp; have := HON.out.size; omega) ?_; intro v2 w1 hown1 hg1 hat1; have hkeep : w1.heap[g]? = wr.heap[g]? := (hg1.block g (by simp; omega) (fun e => HNEG.out e.symm)).trans (Below.heap_alloc _ _ _ hgl); have hcg' : w1.cell? ⟨g, 0, none⟩ = some (.slice A1 n1 c1) := (World.cell?_of_block hkeep).trans hcg; have hfz : w1.frozen? ⟨g, 0, none⟩ = false := (World.frozen?_of_block hkeep).trans hfg; have HOWN1 := Lib.hid hown1; have HG1 := Lib.hid hg1; have HAT1 := Lib.hid hat1; have HK := Lib.hid hkeep; obtain ⟨A2, n2, c2, rfl, hn2, -, -⟩ := hown1.form; clear hown1 hg1 hat1 hkeep)
      have hgb : wr.grownBy w1 (Value.slice A1 n1 c1).ownBlock := by
        obtain ⟨a, b, c, d, e⟩ := HG1.out
        exact ⟨a, b, c, Nat.le_trans (by simp) d, fun q hq hne => (e q (by simp; omega) hne).trans (Below.heap_alloc _ _ _ hq)⟩
      have hne2 : (Value.slice A2 n2 c2).ownBlock ≠ some g := by
        intro e
        rcases HAT1.out with h | h
        · exact HNEG.out (h.symm.trans e)
        · rw [h] at e; simp at e; omega
      go_roundw
      case rel =>
        refine ⟨k + 1, .slice A2 n2 c2, by omega, by go_num, ?_, ?_, ?_, ?_⟩
        · have := HK.out.trans HV1.out
          unfold Var1
          simp [World.setCell, Array.getElem?_modify, this]
        · rw [HSN.out]
          exact HOWN1.out.only (F := fun b => b = g) (Only.setCell (F := fun b => b = g) (Only.refl _ _) (p := ⟨g, 0, none⟩) (.inl rfl) _) (fun b hb e => hne2 (by rw [hb, e]))
        · refine (HON.out.grown hgb fun b hb => ?_).setCell (.inl (.inl rfl)) _
          rcases HAT.out with h | ⟨q, h, hq⟩
          · exact .inl (.inr (hb.trans h))
          · rw [h] at hb; injection hb with hb; subst hb; exact .inr hq
        · rcases HAT1.out with h | h
          · rcases HAT.out with h' | ⟨q, h', hq⟩
            · exact .inl (h.trans h')
            · exact .inr ⟨q, h.trans h', hq⟩
          · exact .inr ⟨_, h, by have := HON.out.size; simp; omega⟩
      case measure => simp [intOf]; omega
    · obtain rfl : k = n := by omega
      have hfin : l ++ s.take k = l ++ s := by rw [List.take_of_length_le (by have := HN.out; omega)]
      rw [hfin] at ho1
      go_wp2
      go_end0
      exact ⟨rfl, v1, hv1, ho1, HON.out, HAT.out⟩
end Go.Proofs.YtebbilkkacbfjaaDoor
