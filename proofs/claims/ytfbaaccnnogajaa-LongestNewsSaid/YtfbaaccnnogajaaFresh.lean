/- Another stamp: the walk of (longest.Search).fresh. Conditions: the search's parts lie in blocks of the run's own. -/
import Derived.Test.YtfbaaccnnogajaaProg
import Derived.Test.YtfbaaccnnogajaaCome
import Derived.WalkKit
import Derived.WalkSpells
import Derived.Deep.QuietTactic
import Derived.BigQuiet
import Derived.Lib.Hide
import Derived.Lib.SliceRun
import Derived.Deep.DeepMust
namespace Go.Proofs.Ytfbaaccnnogajaa
open Go.RowKit

section
variable {α : Type} {r : Rep α} {e : TypeId} {base : Nat} {c : Nat}
/-- Cells of what is owned, written over from a place on. -/
theorem Own.setCells (hn : r.n = 1) (g n : Nat) : ∀ (zs : List Value) (xs : List α) (l : List α) (w : World) (k : Nat), Own r e w base nob (.slice (some ⟨g, 0, none⟩) n c) l → l.length = n → zs.length = xs.length → k + zs.length ≤ n →
    (∀ i (h : i < zs.length) (h' : i < xs.length), ∀ w, r.is w nob [zs[i]] xs[i]) → Own r e (w.setCells g k zs) base nob (.slice (some ⟨g, 0, none⟩) n c) (l.take k ++ xs ++ l.drop (k + zs.length)) := by
  intro zs
  induction zs with
  | nil =>
    intro xs l w k h hl hx hk _
    have : xs = [] := List.eq_nil_of_length_eq_zero (by simpa using hx.symm)
    subst this
    simpa [World.setCells] using h
  | cons z zs ih =>
    intro xs l w k h hl hx hk hr
    cases xs with
    | nil => simp at hx
    | cons x xs =>
      simp only [List.length_cons] at hk hx
      have hkl : k < l.length := by omega
      obtain ⟨g', c', u, he, _, _, _, _, _, hset⟩ := h.cellAt hn hkl
      simp only [Value.slice.injEq, Option.some.injEq, Addr.mk.injEq] at he
      obtain ⟨⟨rfl, _⟩, _, rfl⟩ := he
      have h2 := hset z x ((hr 0 (by simp) (by simp)) w)
      have h3 := ih xs (l.set k x) (w.setCell ⟨g, k, none⟩ z) (k + 1) h2 (by simpa using hl) (by omega) (by omega) (fun i hi hi' w => hr (i + 1) (by simp; omega) (by simp; omega) w)
      have e1 : (l.set k x).take (k + 1) = l.take k ++ [x] := by
        rw [List.take_succ_eq_append_getElem (by simpa using hkl), List.take_set_of_le (by omega)]
        simp
      have e2 : (l.set k x).drop (k + 1 + zs.length) = l.drop (k + (zs.length + 1)) := by
        rw [List.drop_set_of_lt (by omega)]; congr 1; omega
      rw [e1, e2] at h3
      show Own r e ((w.setCell ⟨g, k, none⟩ z).setCells g (k + 1) zs) base nob _ _
      simpa using h3
theorem Only.setCells (F : Blocks) (g : Nat) (hg : F g) : ∀ (zs : List Value) (a w : World) (k : Nat), Only F a w → Only F a (w.setCells g k zs) := by
  intro zs
  induction zs with
  | nil => intro a w k h; exact h
  | cons z zs ih => intro a w k h; exact ih a _ (k + 1) (h.setCell (.inl hg) z)
/-- A cut 's[:k]' of what is owned. -/
theorem Own.cutTo {w : World} {A : Option Addr} {n k : Nat} {l : List α} (h : Own r e w base nob (.slice A n c) l) (hn : l.length = n) (hk : k ≤ n) : Own r e w base nob (.slice A k c) (l.take k) := by
  obtain ⟨xs, hx, hS, h1, hr⟩ := h
  have hlt : (l.take k).length = k := by rw [List.length_take]; omega
  refine ⟨xs.take (k * r.n), ⟨by rw [List.length_take, hlt, hx.1, hn]; exact Nat.min_eq_left (Nat.mul_le_mul_right _ hk), ?_⟩, fun _ h => h.elim, fun u hu => h1 u (List.mem_of_mem_take hu), fun i hi => ?_⟩
  · rcases hx.2 with ⟨h, h0⟩ | ⟨g, cap, cur, h, hb, hg, hle, hmax, hsz, htk⟩
    · simp only [Value.slice.injEq] at h
      obtain ⟨rfl, rfl, rfl⟩ := h
      obtain rfl : k = 0 := by omega
      exact .inl ⟨rfl, by simp⟩
    · simp only [Value.slice.injEq] at h
      obtain ⟨rfl, rfl, rfl⟩ := h
      refine .inr ⟨g, c, cur, by rw [hlt], hb, hg, by omega, hmax, hsz, ?_⟩
      rw [hlt, ← htk, List.take_take]
      congr 1
      rw [hn]
      exact (Nat.min_eq_left (Nat.mul_le_mul_right _ hk)).symm
  · rw [hlt] at hi
    have := hr i (by omega)
    have e : ((xs.take (k * r.n)).drop (i * r.n)).take r.n = (xs.drop (i * r.n)).take r.n := by
      rw [List.drop_take, List.take_take]
      congr 1
      have : i * r.n + r.n ≤ k * r.n := by rw [← Nat.succ_mul]; exact Nat.mul_le_mul_right _ hi
      omega
    rw [e]
    simpa using this
end

section
variable (B gs : Nat) (vm vt : Value) (st : Int) (vh vw ve : Value) (steps : Int) (met : List Int) (w : World)
    (hblk : Blk w gs vm vt st vh vw ve steps) (ht : Own (Rep.int .i16) 36 w B nob vt met)
include hblk
set_option maxHeartbeats 1000000 in
theorem fresh_on (h0 : 0 ≤ st) (hst : st < 32767) : Calls Try.prog 32 #[.pointer (some ⟨gs, 0, none⟩)] w fun e w' => e = .returned (.tuple #[]) ∧ w' = w.setCell ⟨gs, 2, none⟩ (.int .i16 (st + 1)) := by
  have hc2 := hblk.cell 2 (.int .i16 st) rfl
  have hf2 := hblk.frozen 2
  have hs : (st == 32767) = false := by rw [beq_eq_false_iff_ne]; omega
  have hs2 : st ≤ 32766 := by omega
  clear hblk hst
  go_enter Try.func32, Try.ntmps32
  go_wp2
  go_end0
  exact ⟨rfl, rfl⟩
include ht
set_option maxRecDepth 100000 in
set_option maxHeartbeats 1000000 in
theorem fresh_wrap (hlen : 0 < met.length) (hst : st = 32767) : Calls Try.prog 32 #[.pointer (some ⟨gs, 0, none⟩)] w fun e w' => e = .returned (.tuple #[]) ∧ Blk w' gs vm vt 1 vh vw ve steps ∧ Own (Rep.int .i16) 36 w' B nob vt (List.replicate met.length 0) ∧ Only (fun b => b = gs ∨ some b = vt.ownBlock) w w' := by
  subst hst
  have hneb := ht.ne_block hblk (by decide)
  obtain ⟨g, c, u, rfl, hB, hg, hcell, hfz, _, _⟩ := ht.cellAt rfl hlen
  have hgs : g ≠ gs := fun e => hneb (by rw [e]; rfl)
  have hcells : ∀ j, j < met.length → w.cell? ⟨g, j, none⟩ = some (.int .i16 (met.getD j 0)) ∧ w.frozen? ⟨g, j, none⟩ = false := by
    intro j hj
    obtain ⟨g', c', u', he, _, _, hc', hf', ⟨hu', _⟩, _⟩ := ht.cellAt rfl hj
    simp only [Value.slice.injEq, Option.some.injEq, Addr.mk.injEq] at he
    obtain ⟨⟨rfl, _⟩, _, rfl⟩ := he
    refine ⟨?_, hf'⟩
    rw [hc']
    simp at hu'
    rw [hu', List.getD_eq_getElem?_getD, List.getElem?_eq_getElem hj]; rfl
  have hrun : ∀ ty, (Builtin.clear_ #[35] ty #[.slice (some ⟨g, 0, none⟩) met.length c]).run Try.prog w = .ok (.tuple #[]) (w.setCells g 0 (List.replicate met.length (.int .i16 0))) := fun ty =>
    Lib.run_clear_slice w 35 36 ty (.int .i16 0) Try.underlying35 (fun w => by kernel_rfl) rfl rfl g 0 met.length c hlen (fun j hj => by rw [Nat.zero_add, (hcells j hj).1]; rfl) (fun j hj => by rw [Nat.zero_add]; exact (hcells j hj).2)
  obtain ⟨w1, hw1⟩ : ∃ w1, w1 = w.setCells g 0 (List.replicate met.length (.int .i16 0)) := ⟨_, rfl⟩
  have hon : Only (fun b => b = g) w w1 := by rw [hw1]; exact Only.setCells (fun b => b = g) g rfl _ _ _ _ (Only.refl _ _)
  have hown : Own (Rep.int .i16) 36 w1 B nob (.slice (some ⟨g, 0, none⟩) met.length c) (List.replicate met.length 0) := by
    have := Own.setCells (r := Rep.int .i16) (e := 36) (base := B) (c := c) rfl g met.length (List.replicate met.length (.int .i16 0)) (List.replicate met.length 0) met w 0 ht rfl (by simp) (by simp) (fun i h h' w => by simp [Rep.int]; rfl)
    rw [← hw1] at this
    simpa using this
  have hblk1 := hblk.only hon (fun h => hgs h.symm)
  rw [← hw1] at hrun
  have hc1 := hblk.cell 1 _ rfl
  have hc2 := hblk.cell 2 _ rfl
  have hd2 := hblk1.cell 2 _ rfl
  have hf2 := hblk1.frozen 2
  have hlt1 := hblk1.lt
  obtain ⟨n, hn⟩ : ∃ n, n = met.length := ⟨_, rfl⟩
  rw [← hn] at hrun hc1
  have HN := Lib.hid hn
  have HON := Lib.hid hon
  have HOWN := Lib.hid hown
  have HBLK1 := Lib.hid hblk1
  clear hneb hcells hblk ht hon hown hblk1 hn hcell hfz hw1
  go_enter Try.func32, Try.ntmps32
  go_wp2
  go_end0
  have b1 := Blk.set gs vm _ _ vh vw ve steps HBLK1.out 0 _ vh vw ve steps 2 (.int .i16 0) rfl
  have b2 := Blk.set gs vm _ _ vh vw ve steps b1 1 _ vh vw ve steps 2 (.int .i16 1) rfl
  have o3 : Only (fun b => b = gs) w1 ((w1.setCell ⟨gs, 2, none⟩ (.int .i16 0)).setCell ⟨gs, 2, none⟩ (.int .i16 1)) := Only.setCell (F := fun b => b = gs) (Only.setCell (F := fun b => b = gs) (Only.refl _ _) (.inl rfl) _) (.inl rfl) _
  refine ⟨rfl, b2, HOWN.out.only o3 (fun b hb h => ?_), (HON.out.mono fun b h => .inr (by rw [h]; rfl)).trans o3 fun b h => .inl (.inl h)⟩
  simp [Value.ownBlock] at hb
  exact hgs (hb.trans h)

/-- Another stamp: what no instruction was met at. -/
theorem fresh_any (hlen : 0 < met.length) (h0 : 0 ≤ st) (hst : st ≤ 32767) (hmet : ∀ x ∈ met, 0 ≤ x ∧ x ≤ st) :
    Calls Try.prog 32 #[.pointer (some ⟨gs, 0, none⟩)] w fun e w' => e = .returned (.tuple #[]) ∧ ∃ met' st', Blk w' gs vm vt st' vh vw ve steps ∧ Own (Rep.int .i16) 36 w' B nob vt met' ∧ met'.length = met.length ∧ (∀ x ∈ met', 0 ≤ x ∧ x < st') ∧ 0 ≤ st' ∧ st' ≤ 32767 ∧
      Only (fun b => b = gs ∨ some b = vt.ownBlock) w w' := by
  by_cases h : st = 32767
  · refine (fresh_wrap B gs vm vt st vh vw ve steps met w hblk ht hlen h).mono ?_
    rintro e w' ⟨he, h1, h2, h3⟩
    exact ⟨he, _, 1, h1, h2, by simp, fun x hx => by rw [List.eq_of_mem_replicate hx]; omega, by omega, by omega, h3⟩
  · have hneb := ht.ne_block hblk (by decide)
    refine (fresh_on gs vm vt st vh vw ve steps w hblk h0 (by omega)).mono ?_
    rintro e w' ⟨he, rfl⟩
    have b1 := Blk.set gs vm _ _ vh vw ve steps hblk (st + 1) _ vh vw ve steps 2 (.int .i16 (st + 1)) rfl
    have o1 : Only (fun b => b = gs) w (w.setCell ⟨gs, 2, none⟩ (.int .i16 (st + 1))) := Only.setCell (F := fun b => b = gs) (Only.refl _ _) (.inl rfl) _
    exact ⟨he, met, st + 1, b1, ht.only o1 (fun b hb h => hneb (by rw [hb, h])), rfl, fun x hx => by have := hmet x hx; omega, by omega, by omega, o1.mono fun b h => .inl h⟩
end
end Go.Proofs.Ytfbaaccnnogajaa
