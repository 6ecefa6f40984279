/- Texts that lead to the claim, one behind the other: slices.Clone, of bytes and of faults: the walks. Condition: room. -/
import Derived.Test.YtncpeogkccjmcaaGreatDoorTK12
namespace Go.Proofs.YtncpeogkccjmcaaGreatDoor
open Go.RowKit Go.ChangeShapes Go.WideShapes Go.Deep

theorem Own.empty {α : Type} (r : Rep α) (e : TypeId) (w : World) (B : Nat) (hB : B ≤ w.heap.size) : Own r e (w.alloc (.cells #[] e)) B nob (.slice (some ⟨w.heap.size, 0, none⟩) 0 0) ([] : List α) :=
  ⟨[], ⟨by simp, .inr ⟨w.heap.size, 0, #[], by simp, hB, heap_alloc_new w _, by simp, by simp [maxLen], by simp, by simp⟩⟩, fun _ h => h.elim, by simp, fun i hi => absurd hi (by simp)⟩
theorem stFault : SliceType Tryz.prog 38 123 2 16 := SliceType.mk' (z := .agg #[.int .i64 0, .int .i64 0]) Tryz.underlying38 (by kernel_rfl) rfl (by omega)
set_option maxRecDepth 100000 in
set_option maxHeartbeats 1000000 in
theorem cloneBytes (A : Option Addr) (n c : Nat) (l : List UInt8) (w : World) (S : Blocks) (hn : Hid (n = l.length)) (hl : Hid (SliceAt Rep.byte w S A c l)) (hS : Hid (∀ b, S b → b < w.heap.size)) (hb : n ≤ 1099511627776) :
    Calls Tryz.prog 21 #[.slice A n c] w fun e w' => ∃ A' c', e = .returned (.slice A' n c') ∧ n ≤ c' ∧ c' ≤ 9223372036854775807 ∧ Own Rep.byte 5 w' w.heap.size nob (.slice A' n c') l ∧ Below w.heap.size w w' := by
  cases A with
  | none =>
    have hc0 := hl.out.2.2.1 rfl
    have h0 : l = [] := List.eq_nil_of_length_eq_zero (by have := hl.out.len; omega)
    have hn0 : n = 0 := by rw [hn.out, h0]; rfl
    subst hn0; subst hc0
    have he : ∀ w : World, (binOp .eql 67 (.slice none 0 0) (.slice none 0 0)).run Tryz.prog w = .ok (.bool true) w := fun _ => rfl
    go_enter Tryz.func21, Tryz.ntmps21
    go_wp2_with fail
    go_ret
    exact ⟨none, 0, rfl, Nat.le_refl _, by omega, by rw [h0]; exact Own.nil _ _ _ _, Below.refl _ _⟩
  | some a =>
    have hS1 := Lib.hid (hl.out.keep (S' := S) (fun _ h => h) (Same.of_below (Below.alloc (Below.refl w.heap.size w) (Nat.le_refl _) (.cells #[] 5)) hS.out))
    have he : ∀ w : World, (binOp .eql 67 (.slice (some a) n c) (.slice none 0 0)).run Tryz.prog w = .ok (.bool false) w := fun _ => rfl
    go_enter Tryz.func21, Tryz.ntmps21
    go_wp2_with (at_builtin; refine wpList_append_bytes _ rfl (.tmp 5) (.tmp 6) 67 rfl w.heap.size 5 stBytes (.slice (some ⟨w.heap.size, 0, none⟩) 0 0) [] rfl (Own.empty Rep.byte 5 w w.heap.size (Nat.le_refl _)) S (some a) n c l rfl hS1.out hn.out.symm (by simp <;> omega) (by simp) ?_; intro v' w1 hown hg hat; have HO := Lib.hid hown; have HG := Lib.hid hg; clear hown hg hat)
    obtain ⟨A', n', c', rfl, hn', h1, h2⟩ := HO.out.form
    go_ret
    have e : n' = n := by rw [hn'.out, hn.out]; simp
    subst e
    refine ⟨A', c', rfl, h1, h2, HO.out, ?_⟩
    exact (Below.alloc (Below.refl _ _) (Nat.le_refl _) _).grown HG.out (by simp) fun k hk => by simp [Value.ownBlock] at hk; omega
set_option maxRecDepth 100000 in
set_option maxHeartbeats 1000000 in
theorem cloneFaults (A : Option Addr) (n c : Nat) (l : List (Int × Int)) (w : World) (S : Blocks) (hn : Hid (n = l.length)) (hl : Hid (SliceAt Rep.fault w S A c l)) (hS : Hid (∀ b, S b → b < w.heap.size)) (hb : n ≤ 1099511627776) :
    Calls Tryz.prog 90 #[.slice A n c] w fun e w' => ∃ A' c', e = .returned (.slice A' n c') ∧ n ≤ c' ∧ c' ≤ 9223372036854775807 ∧ Own Rep.fault 123 w' w.heap.size nob (.slice A' n c') l ∧ Below w.heap.size w w' := by
  cases A with
  | none =>
    have hc0 := hl.out.2.2.1 rfl
    have h0 : l = [] := List.eq_nil_of_length_eq_zero (by have := hl.out.len; omega)
    have hn0 : n = 0 := by rw [hn.out, h0]; rfl
    subst hn0; subst hc0
    have he : ∀ w : World, (binOp .eql 38 (.slice none 0 0) (.slice none 0 0)).run Tryz.prog w = .ok (.bool true) w := fun _ => rfl
    go_enter Tryz.func90, Tryz.ntmps90
    go_wp2_with fail
    go_ret
    exact ⟨none, 0, rfl, Nat.le_refl _, by omega, by rw [h0]; exact Own.nil _ _ _ _, Below.refl _ _⟩
  | some a =>
    have hS1 := Lib.hid (hl.out.keep (S' := S) (fun _ h => h) (Same.of_below (Below.alloc (Below.refl w.heap.size w) (Nat.le_refl _) (.cells #[] 123)) hS.out))
    have he : ∀ w : World, (binOp .eql 38 (.slice (some a) n c) (.slice none 0 0)).run Tryz.prog w = .ok (.bool false) w := fun _ => rfl
    go_enter Tryz.func90, Tryz.ntmps90
    go_wp2_with (at_builtin; refine wpList_append_Own _ rfl (.tmp 5) (.tmp 6) 38 rfl Rep.fault w.heap.size 123 16 stFault nob (.slice (some ⟨w.heap.size, 0, none⟩) 0 0) [] rfl (Own.empty Rep.fault 123 w w.heap.size (Nat.le_refl _)) S (some a) c l (by rw [← hn.out]; rfl) hS1.out nob (fun _ h => h.elim) (fun _ h => h) (fun _ _ h => h) (by rw [← hn.out]; simp <;> omega) (by rw [← hn.out]; simp <;> omega) (by simp) ?_; intro v' w1 hown hg hat; have HO := Lib.hid hown; have HG := Lib.hid hg; clear hown hg hat)
    obtain ⟨A', n', c', rfl, hn', h1, h2⟩ := HO.out.form
    go_ret
    have e : n' = n := by rw [hn'.out, hn.out]; simp
    subst e
    refine ⟨A', c', rfl, h1, h2, HO.out, ?_⟩
    exact (Below.alloc (Below.refl _ _) (Nat.le_refl _) _).grown HG.out (by simp) fun k hk => by simp [Value.ownBlock] at hk; omega
theorem Own.low {α : Type} {r : Rep α} {e : TypeId} {w : World} {base base' : Nat} {S : Blocks} {v : Value} {l : List α} (h : Own r e w base S v l) (hb : base' ≤ base) : Own r e w base' S v l := by
  obtain ⟨xs, hx, hrest⟩ := h
  refine ⟨xs, ⟨hx.1, ?_⟩, hrest⟩
  rcases hx.2 with hx2 | ⟨g, cap, cur, e1, e2, e3⟩
  · exact .inl hx2
  · exact .inr ⟨g, cap, cur, e1, Nat.le_trans hb e2, e3⟩
/-- What a look at a file's bytes leaves: they lie in new memory. -/
def ReadPost (w : World) (r : List UInt8 × Int) (e : Ending) (w' : World) : Prop :=
  ∃ A n c, e = .returned (.tuple #[.slice A n c, .int .i64 r.2]) ∧ Hid (n = r.1.length) ∧ n ≤ c ∧ c ≤ 9223372036854775807 ∧ Own Rep.byte 5 w' w.heap.size nob (.slice A n c) r.1 ∧ Below w.heap.size w w'
namespace Disk
theorem there_1 {s : St} {n : Nm} (h : s.looked [] [n] ≠ 0) : s.there n = s.looked [] [n] := by unfold St.there; rw [if_pos h]
theorem there_2 {s : St} {n : Nm} (h : s.looked [] [n] = 0) : s.there n = s.looked n [] := by unfold St.there; rw [if_neg (by simpa using h)]
theorem spoil_1 {s : St} {n : Nm} {b : Bool} (h : s.looked [] [n] ≠ 0) : s.spoil n b = (s, s.looked [] [n]) := by unfold St.spoil; rw [there_1 h, if_pos h]
theorem spoil_2 {s : St} {n : Nm} {b : Bool} (h : s.looked [] [n] = 0) (h2 : s.looked n [] ≠ 0) : s.spoil n b = (s, s.looked n []) := by unfold St.spoil; rw [there_2 h, if_pos h2]
theorem spoil_3 {s : St} {n : Nm} {b : Bool} (h : s.looked [] [n] = 0) (h2 : s.looked n [] = 0) : s.spoil n b = (s.setNd ((find s.now n).getD 0) fun d => { d with bad := b }, 0) := by unfold St.spoil; rw [there_2 h, if_neg (by simpa using h2)]
theorem read_1 {s : St} {n : Nm} (h : s.looked [] [n] ≠ 0) : s.read n = ([], s.looked [] [n]) := by unfold St.read; rw [there_1 h, if_pos h]
theorem read_2 {s : St} {n : Nm} (h : s.looked [] [n] = 0) (h2 : s.looked n [] ≠ 0) : s.read n = ([], s.looked n []) := by unfold St.read; rw [there_2 h, if_pos h2]
theorem read_3 {s : St} {n : Nm} (h : s.looked [] [n] = 0) (h2 : s.looked n [] = 0) {i : Nat} (hi : find s.now n = some i) {nd : Nd} (hd : s.all[i]? = some nd) : s.read n = if nd.bad then ([], 23) else (nd.bytes, 0) := by
  have : s.file n = nd := by simp [St.file, hi, hd]
  unfold St.read; rw [there_2 h, if_neg (by simpa using h2), this]
end Disk
end Go.Proofs.YtncpeogkccjmcaaGreatDoor
