/- Texts that lead to the claim, one behind the other: A file swapped for another one: all calls in a row, wherever the power goes. No program in sight. No conditions. | A disk behind a row of calls. No conditions. -/
import Derived.Test.YtncpeogkccjmcaaGreatDoorTK12
namespace Go.Proofs.YtncpeogkccjmcaaGreatDoor
namespace Disk

/-- How far the counts have come. -/
def Cnt (a b c : Nat) (s : St) : Prop := 0 ≤ s.tries ∧ s.tries ≤ a ∧ 0 ≤ s.done ∧ s.done ≤ b ∧ s.row.length ≤ c
theorem Cnt.mono {a b c a' b' c' : Nat} {s : St} (h : Cnt a b c s) (h1 : a ≤ a') (h2 : b ≤ b') (h3 : c ≤ c') : Cnt a' b' c' s := by
  obtain ⟨x1, x2, x3, x4, x5⟩ := h
  refine ⟨x1, ?_, x3, ?_, ?_⟩ <;> omega
theorem Cnt.small {a b c k : Nat} {s : St} (h : Cnt a b c s) (h1 : a ≤ 8 * k) (h2 : b ≤ 8 * k) (h3 : c ≤ k) : Small k s := by
  obtain ⟨x1, x2, x3, x4, x5⟩ := h
  refine ⟨x1, ?_, x3, ?_, ?_⟩ <;> omega
theorem cnt_tried {a b c : Nat} {s : St} (h : Cnt a b c s) : Cnt (a + 1) b c s.tried.1 := by
  obtain ⟨h1, h2, h3, h4, h5⟩ := h
  have ⟨a1, a2, _⟩ := tried_kept s
  have b := (tried_tries s).1
  refine ⟨?_, ?_, ?_, ?_, ?_⟩ <;> simp only [a1, a2, b] <;> omega
theorem cnt_call {a b c r : Nat} {s : St} {names : List Nm} {has : Nm} {f : St → St × Int} (h : Cnt a b c s) (hf : ∀ t : St, Cnt (a + 1) b c t → Cnt (a + 1) (b + 1) (c + r) (f t).1) : Cnt (a + 1) (b + 1) (c + r) (s.call names has f).1 := by
  unfold St.call
  split
  · exact h.mono (by omega) (by omega) (by omega)
  · split
    · exact h.mono (by omega) (by omega) (by omega)
    · split
      · exact (cnt_tried h).mono (by omega) (by omega) (by omega)
      · exact hf _ (cnt_tried h)
theorem cnt_make {a b c : Nat} {s : St} (h : Cnt a b c s) (n : Nm) : Cnt (a + 1) (b + 1) (c + 1) (s.make n).1 := by
  refine cnt_call h fun t ht => ?_
  obtain ⟨h1, h2, h3, h4, h5⟩ := ht
  split
  · exact Cnt.mono ⟨h1, h2, h3, h4, h5⟩ (by omega) (by omega) (by omega)
  · refine ⟨h1, ?_, ?_, ?_, ?_⟩ <;> simp [St.more, St.changes] <;> omega
theorem cnt_append {a b c : Nat} {s : St} (h : Cnt a b c s) (n : Nm) (x : List UInt8) : Cnt (a + 1) (b + 1) c (s.append n x).1 := by
  refine cnt_call (r := 0) h fun t ht => ?_
  obtain ⟨h1, h2, h3, h4, h5⟩ := ht
  split
  · exact Cnt.mono ⟨h1, h2, h3, h4, h5⟩ (by omega) (by omega) (by omega)
  · refine ⟨h1, ?_, ?_, ?_, ?_⟩ <;> simp [St.more, St.setNd] <;> omega
theorem cnt_sync {a b c : Nat} {s : St} (h : Cnt a b c s) (n : Nm) : Cnt (a + 1) (b + 1) c (s.sync n).1 := by
  refine cnt_call (r := 0) h fun t ht => ?_
  obtain ⟨h1, h2, h3, h4, h5⟩ := ht
  refine ⟨h1, ?_, ?_, ?_, ?_⟩ <;> simp [St.more, St.setNd] <;> omega
theorem cnt_rename {a b c : Nat} {s : St} (h : Cnt a b c s) (n m : Nm) : Cnt (a + 1) (b + 1) (c + 1) (s.rename n m).1 := by
  refine cnt_call h fun t ht => ?_
  obtain ⟨h1, h2, h3, h4, h5⟩ := ht
  dsimp only
  split
  · refine ⟨h1, ?_, ?_, ?_, ?_⟩ <;> simp [St.more] <;> omega
  · refine ⟨h1, ?_, ?_, ?_, ?_⟩ <;> simp [St.more, St.changes] <;> omega

/-! ### the calls -/
def St.swapGo (s : St) : List (List UInt8) → St × Bool
  | [] => (s, true)
  | p :: r => if (s.append nN p).2 = 0 then St.swapGo (s.append nN p).1 r else ((s.append nN p).1, false)
def St.swapEnd (s : St) (last : Bool) : St × Bool :=
  if (s.sync nN).2 = 0 then
    if ((s.sync nN).1.rename nN nF).2 = 0 then
      if last = true then (((s.sync nN).1.rename nN nF).1.syncDir.1, decide (((s.sync nN).1.rename nN nF).1.syncDir.2 = 0)) else (((s.sync nN).1.rename nN nF).1, true)
    else (((s.sync nN).1.rename nN nF).1, false)
  else ((s.sync nN).1, false)
def St.swapped (s : St) (ps : List (List UInt8)) (last : Bool) : St × Bool :=
  if (s.make nN).2 = 0 then
    if ((s.make nN).1.swapGo ps).2 = true then ((s.make nN).1.swapGo ps).1.swapEnd last else ((s.make nN).1.swapGo ps)
  else ((s.make nN).1, false)
theorem fine_swapGo : ∀ (ps : List (List UInt8)) {s : St}, Fine s → Fine (s.swapGo ps).1
  | [], _, h => h
  | p :: r, s, h => by
    unfold St.swapGo
    have := fine_act h (.append nN p)
    split
    · exact fine_swapGo r this
    · exact this
theorem fine_swapped {s : St} (h : Fine s) (ps : List (List UInt8)) (last : Bool) : Fine (s.swapped ps last).1 := by
  have h1 := fine_act h (.make nN)
  have h2 := fine_swapGo ps h1
  have h3 := fine_act h2 (.sync nN)
  have h4 := fine_act h3 (.rename nN nF)
  have h5 := fine_act h4 .syncDir
  unfold St.swapped
  split
  · split
    · unfold St.swapEnd
      split
      · split
        · split
          · exact h5
          · exact h4
        · exact h4
      · exact h3
    · exact h2
  · exact h1

/-- Before the cut. -/
structure Sw (O : List UInt8) (g : Stage) (at_ : Int) (k : Nat) (s : St) : Prop where
  is_ : g.is O s
  on : s.on = true
  room : s.room = 16777216
  tries : s.tries = k
  plan : s.plan = if 1 ≤ at_ then [(at_, 24)] else []
  yet : at_ < 1 ∨ (k : Int) < at_
/-- Behind it. -/
structure Cut (O : List UInt8) (g : Stage) (s : St) : Prop where
  is_ : g.is O s
  on : s.on = false
section
variable {O : List UInt8} {g g' : Stage} {at_ : Int} {k : Nat} {s : St}
theorem Sw.tried (h : Sw O g at_ k s) : (at_ = k + 1 ∧ s.tried.2 = 24 ∧ s.tried.1.on = false) ∨ (at_ ≠ k + 1 ∧ s.tried.2 = 0) := by
  unfold St.tried
  rw [h.plan, h.tries]
  by_cases h1 : 1 ≤ at_
  · rw [if_pos h1]
    by_cases h2 : at_ = k + 1
    · left
      simp [h2]
    · right
      simp [h2]
  · rw [if_neg h1]
    right
    simp only [List.find?_nil]
    exact ⟨by omega, trivial⟩
theorem Sw.next {r : St × Int} (h : Sw O g at_ k s) (hn : Next O g' s r) : (at_ = k + 1 ∧ r.2 ≠ 0 ∧ Cut O g r.1) ∨ (at_ ≠ k + 1 ∧ r.2 = 0 ∧ Sw O g' at_ (k + 1) r.1) := by
  rcases h.tried with ⟨h1, h2, h3⟩ | ⟨h1, h2⟩
  · left
    rcases hn with ⟨-, rfl⟩ | ⟨h4, -⟩
    · exact ⟨h1, by rw [h2]; decide, Stage.tried h.is_, h3⟩
    · rw [h2] at h4; exact absurd h4 (by decide)
  · right
    rcases hn with ⟨h4, -⟩ | ⟨-, h5, h6, h7, h8, h9, h10⟩
    · exact absurd h2 h4
    · refine ⟨h1, h5, h6, h7, h8.trans h.room, by rw [h9, h.tries]; rfl, h10.trans h.plan, ?_⟩
      rcases h.yet with y | y
      · exact .inl y
      · right; omega
end
/-- What is behind all calls. -/
def Swapped (O c : List UInt8) (at_ calls : Int) (last : Bool) (r : St × Bool) : Prop :=
  r.2 = decide (at_ < 1 ∨ calls < at_) ∧ r.1.on = r.2 ∧ ∃ g : Stage, g.is O r.1 ∧ (∀ c', g = .d c' ∨ g = .e c' → c' = c) ∧ (match g with | .e _ => true | _ => false) = (r.2 && last)
theorem swapped_cut {O c : List UInt8} {at_ calls : Int} {last : Bool} {g : Stage} {s : St} (h : Cut O g s) (h1 : 1 ≤ at_) (h2 : at_ ≤ calls) (hg : ∀ c', g ≠ .e c') (hd : ∀ c', g = .d c' → c' = c) : Swapped O c at_ calls last (s, false) := by
  refine ⟨(decide_eq_false (by omega)).symm, h.on, g, h.is_, fun c' hc => ?_, ?_⟩
  · rcases hc with hc | hc
    · exact hd c' hc
    · exact absurd hc (hg c')
  · cases g <;> simp_all
theorem swapGo_law {O : List UInt8} {at_ calls : Int} {last : Bool} (c : List UInt8) : ∀ (ps : List (List UInt8)) (c0 : List UInt8) (k : Nat) (s : St), Sw O (.b c0) at_ k s → O.length + c0.length + ps.flatten.length ≤ 16777216 → (k : Int) + ps.length ≤ calls →
    ((s.swapGo ps).2 = false ∧ Swapped O c at_ calls last (s.swapGo ps)) ∨ ((s.swapGo ps).2 = true ∧ Sw O (.b (c0 ++ ps.flatten)) at_ (k + ps.length) (s.swapGo ps).1)
  | [], c0, k, s, h, _, _ => .inr ⟨rfl, by simpa [St.swapGo] using h⟩
  | p :: r, c0, k, s, h, hl, hk => by
    rw [List.flatten_cons, List.length_append] at hl
    rw [List.length_cons] at hk
    have hn := swap_append (x := p) h.is_ h.on (by rw [h.room]; omega)
    unfold St.swapGo
    rcases h.next hn with ⟨h1, h2, h3⟩ | ⟨h1, h2, h3⟩
    · left
      rw [if_neg h2]
      exact ⟨rfl, swapped_cut h3 (by omega) (by omega) (fun _ => by simp) (fun _ => by simp)⟩
    · rw [if_pos h2]
      have := swapGo_law (calls := calls) (last := last) c r (c0 ++ p) (k + 1) _ h3 (by rw [List.length_append]; omega) (by omega)
      rcases this with h | h
      · exact .inl h
      · right
        rw [List.flatten_cons, List.length_cons, ← List.append_assoc, show k + (r.length + 1) = k + 1 + r.length by omega]
        exact h
theorem swapped_law {O : List UInt8} {at_ : Int} {s : St} (ps : List (List UInt8)) (last : Bool) (h : Sw O .a at_ 0 s) (hl : O.length + ps.flatten.length ≤ 16777216) :
    Swapped O ps.flatten at_ ((ps.length : Int) + 3 + (if last then 1 else 0)) last (s.swapped ps last) := by
  have hc0 : (ps.length : Int) + 3 ≤ (ps.length : Int) + 3 + (if last = true then 1 else 0) := by split <;> omega
  obtain ⟨calls, hcalls⟩ : ∃ x : Int, x = (ps.length : Int) + 3 + (if last = true then 1 else 0) := ⟨_, rfl⟩
  rw [← hcalls] at hc0 ⊢
  unfold St.swapped
  rcases h.next (swap_make h.is_ h.on) with ⟨h1, h2, h3⟩ | ⟨h1, h2, h3⟩
  · rw [if_neg h2]
    exact swapped_cut h3 (by omega) (by omega) (fun _ => by simp) (fun _ => by simp)
  · rw [if_pos h2]
    have := swapGo_law (calls := calls) (last := last) ps.flatten ps [] 1 _ h3 (by simpa using hl) (by omega)
    rcases this with ⟨h4, h5⟩ | ⟨h4, h5⟩
    · rw [if_neg (by rw [h4]; decide)]; exact h5
    · rw [if_pos h4]
      rw [List.nil_append] at h5
      unfold St.swapEnd
      rcases h5.next (swap_sync h5.is_ h5.on) with ⟨h6, h7, h8⟩ | ⟨h6, h7, h8⟩
      · rw [if_neg h7]
        exact swapped_cut h8 (by omega) (by omega) (fun _ => by simp) (fun _ => by simp)
      · rw [if_pos h7]
        rcases h8.next (swap_rename h8.is_ h8.on) with ⟨h9, h10, h11⟩ | ⟨h9, h10, h11⟩
        · rw [if_neg h10]
          exact swapped_cut h11 (by omega) (by omega) (fun _ => by simp) (fun _ => by simp)
        · rw [if_pos h10]
          cases last with
          | false =>
            rw [if_neg (by decide)]
            have hc : calls = ps.length + 3 := by rw [hcalls]; simp
            refine ⟨(decide_eq_true ?_).symm, h11.on, _, h11.is_, fun c' hc => ?_, rfl⟩
            · rcases h11.yet with y | y
              · exact .inl y
              · right; omega
            · rcases hc with hc | hc
              · cases hc; rfl
              · cases hc
          | true =>
            rw [if_pos rfl]
            have hc : calls = ps.length + 4 := by rw [hcalls]; simp; omega
            rcases h11.next (swap_dir h11.is_ h11.on) with ⟨h12, h13, h14⟩ | ⟨h12, h13, h14⟩
            · rw [decide_eq_false h13]
              exact swapped_cut h14 (by omega) (by omega) (fun _ => by simp) (fun c' h => by cases h; rfl)
            · rw [decide_eq_true h13]
              refine ⟨(decide_eq_true ?_).symm, h14.on, _, h14.is_, fun c' hc => ?_, rfl⟩
              · rcases h14.yet with y | y
                · exact .inl y
                · right; omega
              · rcases hc with hc | hc
                · cases hc
                · cases hc; rfl

/-! ### its beginning, its end -/
def swapFs (O : List UInt8) : List Fin_ := [⟨nF, O, O.length, false⟩]
theorem swap_from {O : List UInt8} (h : O.length ≤ 16777216) : fromErr 16777216 (swapFs O) = 0 := by
  have h1 : allOk (swapFs O) = true := by
    simp [allOk, swapFs, okGo, okF]
    decide
  unfold fromErr
  rw [if_neg (by simp [swapFs]), if_neg (by rw [h1]; decide), if_neg]
  simp [total, swapFs]
  omega
theorem swap_st (O : List UInt8) : fromSt 16777216 (swapFs O) = ⟨16777216, true, [⟨O, O.length, false⟩], [(nF, 0)], [(nF, 0)], [], [], 0, 0⟩ := rfl
theorem swap_plan (O : List UInt8) {at_ : Int} (h : 1 ≤ at_) : (fromSt 16777216 (swapFs O)).plan_ [(at_, 24)] = (⟨16777216, true, [⟨O, O.length, false⟩], [(nF, 0)], [(nF, 0)], [], [(at_, 24)], 0, 0⟩, 0) := by
  have : St.planOk 0 [(at_, 24)] = true := by
    simp [St.planOk]; omega
  unfold St.plan_
  rw [if_pos this, swap_st]
theorem swap_begin (O : List UInt8) {at_ : Int} (h : ¬ 1 ≤ at_) : Sw O .a at_ 0 (fromSt 16777216 (swapFs O)) :=
  ⟨⟨rfl, rfl, rfl, rfl⟩, rfl, rfl, rfl, by rw [if_neg h, swap_st], .inl (by omega)⟩
theorem swap_begin_at (O : List UInt8) {at_ : Int} (h : 1 ≤ at_) : Sw O .a at_ 0 ((fromSt 16777216 (swapFs O)).plan_ [(at_, 24)]).1 := by
  rw [swap_plan O h]
  exact ⟨⟨rfl, rfl, rfl, rfl⟩, rfl, rfl, rfl, by rw [if_pos h], .inr (by omega)⟩
theorem swap_cnt (O : List UInt8) : Cnt 0 0 0 (fromSt 16777216 (swapFs O)) := ⟨Int.le_refl 0, Int.le_refl 0, Int.le_refl 0, Int.le_refl 0, Nat.le_refl 0⟩
theorem swap_cnt_at (O : List UInt8) {at_ : Int} (h : 1 ≤ at_) : Cnt 0 0 0 ((fromSt 16777216 (swapFs O)).plan_ [(at_, 24)]).1 := by
  rw [swap_plan O h]
  exact ⟨Int.le_refl 0, Int.le_refl 0, Int.le_refl 0, Int.le_refl 0, Nat.le_refl 0⟩
/-- The law's last lines. -/
theorem swap_ends {O c : List UInt8} {at_ calls : Int} {last : Bool} {r : St × Bool} (h : Swapped O c at_ calls last r) (dir : Int) (keep : List Int) : Ends O c (r.2 && last) (r.1.off.start dir keep) := by
  obtain ⟨-, -, g, h1, h2, h3⟩ := h
  rw [← h3]
  have h9 := swap_end (s := r.1.off) (Stage.same h1 rfl rfl rfl rfl) rfl dir keep h2
  cases g <;> exact h9
theorem swap_row {O c : List UInt8} {at_ calls : Int} {last : Bool} {r : St × Bool} (h : Swapped O c at_ calls last r) : r.1.row.length ≤ 2 := by
  obtain ⟨-, -, g, h1, -, -⟩ := h
  cases g <;> simp only [Stage.is] at h1 <;> rw [h1.2.2.2] <;> simp
end Disk
end Go.Proofs.YtncpeogkccjmcaaGreatDoor
namespace Go.Proofs.YtncpeogkccjmcaaGreatDoor
open Go.RowKit Go.ChangeShapes Go.WideShapes Go.Deep

section
variable {w0 w w' : World} {F G : Blocks} {d : Nat} {s t : Disk.St}
theorem DiskAt.up (h : DiskAt w F d s) (hF : ∀ b, F b → G b) (hl : ∀ b, G b → b < w.heap.size) : DiskAt w G d s := by
  obtain ⟨loc, blk, bn, bo, rowv, pA, pC, hB⟩ := h
  exact (hB.up hF hl).at_
theorem DiskAt.far (h : DiskAt w F d s) (hb : Below w.heap.size w w') : DiskAt w' F d s := by
  obtain ⟨loc, blk, bn, bo, rowv, pA, pC, hB⟩ := h
  exact (hB.far hb).at_
theorem DiskAt.only (h : DiskAt w F d s) (ho : Only G w w') (hG : ∀ b, F b → ¬ G b) : DiskAt w' F d s := by
  obtain ⟨loc, blk, bn, bo, rowv, pA, pC, hB⟩ := h
  exact (hB.only ho hG).at_
theorem DiskAt.lt (h : DiskAt w F d s) : ∀ b, F b → b < w.heap.size := by
  obtain ⟨loc, blk, bn, bo, rowv, pA, pC, hB⟩ := h
  exact hB.lt
theorem DiskAt.self (h : DiskAt w F d s) : F d := by
  obtain ⟨loc, blk, bn, bo, rowv, pA, pC, hB⟩ := h
  exact hB.Fd
/-- A disk that was here at first, its blocks those of then and new ones; nothing else has turned. -/
structure Dk (w0 w : World) (F : Blocks) (d : Nat) (s : Disk.St) : Prop where
  at_ : DiskAt w (grow F w0 w) d s
  only : Only F w0 w
theorem Dk.start (h : DiskAt w F d s) : Dk w w F d s := ⟨h.up (fun _ hb => .inl hb) (grow_lt h.lt (Nat.le_refl _)), Only.refl _ _⟩
theorem grow_step (h1 : w0.heap.size ≤ w.heap.size) (h2 : w.heap.size ≤ w'.heap.size) : ∀ b, grow (grow F w0 w) w w' b → grow F w0 w' b := by
  rintro b ((hb | ⟨h3, h4⟩) | ⟨h3, h4⟩)
  · exact .inl hb
  · exact .inr ⟨h3, Nat.lt_of_lt_of_le h4 h2⟩
  · exact .inr ⟨Nat.le_trans h1 h3, h4⟩
theorem Dk.next (h : Dk w0 w F d s) (hF : ∀ b, F b → b < w0.heap.size) (h1 : DiskAt w' (grow (grow F w0 w) w w') d t) (h2 : Only (grow F w0 w) w w') : Dk w0 w' F d t :=
  ⟨h1.up (grow_step h.only.size h2.size) (grow_lt hF (Nat.le_trans h.only.size h2.size)), h.only.trans h2 fun _ hx => hx.elim .inl fun hx => .inr hx.1⟩
theorem Dk.call {r : Disk.St × Int} {e : Ending} (h : Dk w0 w F d s) (hF : ∀ b, F b → b < w0.heap.size) (hc : DiskCall w (grow F w0 w) d r e w') : e = .returned (.int .i64 r.2) ∧ Dk w0 w' F d r.1 :=
  ⟨hc.1, h.next hF hc.2.1 hc.2.2⟩
theorem Dk.far (h : Dk w0 w F d s) (hF : ∀ b, F b → b < w0.heap.size) (hb : Below w.heap.size w w') : Dk w0 w' F d s :=
  h.next hF ((h.at_.far hb).up (fun _ hb => .inl hb) (grow_lt h.at_.lt hb.size)) (Only.of_below hb _)
/-- .. seen from before the first new block. -/
theorem Dk.back {o : Obj} (h : Dk (w0.alloc o) w F d s) (hF : ∀ b, F b → b < w0.heap.size) : Dk w0 w F d s := by
  have hs := h.only.size
  simp only [World.size_alloc] at hs
  refine ⟨h.at_.up (fun b hb => hb.elim .inl fun hb => .inr ⟨?_, hb.2⟩) (grow_lt hF (by omega)), ((Only.refl F w0).alloc o).trans h.only fun _ hx => .inl hx⟩
  have := hb.1
  simp only [World.size_alloc] at this
  omega
theorem Dk.apart {S : Blocks} (h : Dk w0 w F d s) (hS : ∀ b, S b → b < w0.heap.size ∧ ¬ F b) : ∀ b, S b → b < w.heap.size ∧ ¬ grow F w0 w b := fun b hb => ⟨Nat.lt_of_lt_of_le (hS b hb).1 h.only.size, fun hg => hg.elim (hS b hb).2 fun hg => by have := (hS b hb).1; omega⟩
theorem Dk.same {S : Blocks} (h : Dk w0 w F d s) (hS : ∀ b, S b → b < w0.heap.size ∧ ¬ F b) : Same S w0 w := h.only.same hS
end
end Go.Proofs.YtncpeogkccjmcaaGreatDoor
