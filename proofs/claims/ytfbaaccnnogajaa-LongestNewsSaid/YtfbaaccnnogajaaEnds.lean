/- What a search answers: the walks of (longest.Search).Ends and Steps. Conditions: a well shaped machine; the search's parts lie in blocks of the run's own, the text in others; room. -/
import Derived.Test.YtfbaaccnnogajaaProg
import Derived.Test.YtfbaaccnnogajaaFrom
import Derived.Test.YtfbaaccnnogajaaCopyOwn
namespace Go.Proofs.Ytfbaaccnnogajaa
open Go.RowKit

theorem stBools : SliceType Try.prog 38 4 1 1 := SliceType.mk' (z := .bool false) Try.underlying38 (by kernel_rfl) rfl (by omega)
section
variable {w w' : World} {B gs : Nat} {M : List Instr} {F : Blocks} {steps : Nat} {E : List Bool}
theorem Srch.lt (h : Srch w B gs M F steps E) : ∀ b, F b → B ≤ b ∧ b < w.heap.size := by
  obtain ⟨vm, vt, st, vh, vw, ne, met, Ae, ce, Ef, Lh, Ly, h1, h2, h3, -, -, -, -, rfl, -⟩ := h
  intro b hb
  rcases hb with rfl | h | h | h | h | h
  · exact ⟨h1.hB, h1.blk.lt⟩
  · exact h1.m.block_lt h.symm
  · exact h1.t.block_lt h.symm
  · exact h2.block_lt h.symm
  · exact h3.block_lt h.symm
  · exact h1.e.block_lt h.symm
theorem Srch.self (h : Srch w B gs M F steps E) : F gs := by
  obtain ⟨vm, vt, st, vh, vw, ne, met, Ae, ce, Ef, Lh, Ly, -, -, -, -, -, -, -, rfl, -⟩ := h
  exact .inl rfl
/-- A search stays, where its blocks have not turned. -/
theorem Srch.only {G : Blocks} (h : Srch w B gs M F steps E) (ho : Only G w w') (hd : ∀ b, F b → ¬ G b) : Srch w' B gs M F steps E := by
  obtain ⟨vm, vt, st, vh, vw, ne, met, Ae, ce, Ef, Lh, Ly, h1, h2, h3, h4, h5, h6, h7, rfl, rfl⟩ := h
  refine ⟨vm, vt, st, vh, vw, ne, met, Ae, ce, Ef, Lh, Ly, h1.only ho ?_ ?_ ?_ ?_, h2.only ho ?_, h3.only ho ?_, h4, h5, h6, h7, rfl, rfl⟩
  · exact hd _ (.inl rfl)
  · exact fun b hb => hd b (.inr (.inl hb.symm))
  · exact fun b hb => hd b (.inr (.inr (.inl hb.symm)))
  · exact fun b hb => hd b (.inr (.inr (.inr (.inr (.inr hb.symm)))))
  · exact fun b hb => hd b (.inr (.inr (.inr (.inl hb.symm))))
  · exact fun b hb => hd b (.inr (.inr (.inr (.inr (.inl hb.symm)))))
theorem Srch.far (h : Srch w B gs M F steps E) (hb : Below w.heap.size w w') : Srch w' B gs M F steps E := h.only (Only.of_below hb nob) fun _ _ h => h
/-- The steps' count set to nothing. -/
theorem Srch.zero (h : Srch w B gs M F steps E) : w.cell? ⟨gs, 6, none⟩ = some (.int .i64 steps) ∧ w.frozen? ⟨gs, 6, none⟩ = false ∧ Srch (w.setCell ⟨gs, 6, none⟩ (.int .i64 0)) B gs M F 0 E := by
  obtain ⟨vm, vt, st, vh, vw, ne, met, Ae, ce, Ef, Lh, Ly, h1, h2, h3, h4, h5, h6, h7, rfl, rfl⟩ := h
  have ho : Only (fun b => b = gs) w (w.setCell ⟨gs, 6, none⟩ (.int .i64 0)) := Only.setCell (F := fun b => b = gs) (Only.refl _ _) (.inl rfl) _
  refine ⟨h1.blk.cell 6 _ rfl, h1.blk.frozen 6, vm, vt, st, vh, vw, ne, met, Ae, ce, Ef, Lh, Ly, ⟨Blk.set gs vm vt st vh vw _ _ h1.blk st vt vh vw _ 0 6 (.int .i64 0) rfl, h1.hB, h1.m.only ho ?_, h1.t.only ho ?_, h1.tl, h1.e.only ho ?_, h1.el, h1.en⟩, h2.only ho ?_, h3.only ho ?_, h4, h5, h6, h7, rfl, rfl⟩
  · exact fun b hb e => h1.m.ne_block h1.blk (by decide) (by rw [hb, e])
  · exact fun b hb e => h1.t.ne_block h1.blk (by decide) (by rw [hb, e])
  · exact fun b hb e => h1.e.ne_block h1.blk (by decide) (by rw [hb, e])
  · exact fun b hb e => h2.ne_block h1.blk (by decide) (by rw [hb, e])
  · exact fun b hb e => h3.ne_block h1.blk (by decide) (by rw [hb, e])
theorem Srch.machine (h : Srch w B gs M F steps E) : ∃ A nm cm, w.cell? ⟨gs, 0, none⟩ = some (.slice A nm cm) ∧ nm = M.length := by
  obtain ⟨vm, vt, st, vh, vw, ne, met, Ae, ce, Ef, Lh, Ly, h1, h2, h3, h4, h5, h6, h7, rfl, rfl⟩ := h
  obtain ⟨A, nm, cm, rfl, hn, -, -⟩ := h1.m.form
  exact ⟨A, nm, cm, h1.blk.cell 0 _ rfl, hn.out⟩
theorem Srch.ends (h : Srch w B gs M F steps E) : ∃ A ne ce, w.cell? ⟨gs, 5, none⟩ = some (.slice A ne ce) ∧ ne = E.length ∧ SliceAt Rep.bool w F A ce E := by
  obtain ⟨vm, vt, st, vh, vw, ne, met, Ae, ce, Ef, Lh, Ly, h1, h2, h3, h4, h5, h6, h7, rfl, rfl⟩ := h
  obtain ⟨A, c', he, hs⟩ := h1.e.slice
  simp only [Value.slice.injEq] at he
  obtain ⟨rfl, hel, rfl⟩ := he
  have hen := h1.en
  refine ⟨Ae, ne, ce, h1.blk.cell 5 _ rfl, by rw [List.length_take]; omega, (hs.cutTo (by omega)).up fun b hb => ?_⟩
  rcases hb with ⟨-, -, hb⟩ | hb
  · exact .inr (.inr (.inr (.inr (.inr hb))))
  · exact hb.elim
end

theorem fromGo_len (M : List Instr) (text : List UInt8) : ∀ (f p : Nat) (l : List Nat) (ends : List Bool) (last : Int) (steps : Nat), (fromGo M text f p l ends last steps).1.length = ends.length := by
  intro f
  induction f with
  | zero => intros; rfl
  | succ f ih =>
    intro p l ends last steps
    rw [fromGo]
    split
    · rfl
    · simp only
      split
      · simp only; split <;> simp
      · rw [ih]; split <;> simp
theorem fromAll_len (M : List Instr) (text : List UInt8) (at_ steps : Nat) : (fromAll M text at_ steps).1.length = text.length + 1 := by
  unfold fromAll
  rw [fromGo_len, List.length_replicate]

section
variable (B gs : Nat) (M : List Instr) (F : Blocks) (steps : Nat) (E : List Bool) (w : World) (A : Option Addr) (n c : Nat)
set_option maxHeartbeats 1000000 in
theorem ends_out (at_ : Int) (hs : Srch w B gs M F steps E) (hM : 0 < M.length) (hat : at_ < 0 ∨ n < at_) :
    Calls Try.prog 17 #[.pointer (some ⟨gs, 0, none⟩), .slice A n c, .int .i64 at_] w fun e w' => e = .returned (.slice none 0 0) ∧ Srch w' B gs M F 0 E ∧ Only F w w' := by
  obtain ⟨hc6, hf6, hz⟩ := hs.zero
  obtain ⟨Am, nm, cm, hc0, hnm⟩ := hs.machine
  have hnm0 : ((nm : Int) == 0) = false := by rw [beq_eq_false_iff_ne]; omega
  have ho : Only F w (w.setCell ⟨gs, 6, none⟩ (.int .i64 0)) := Only.setCell (Only.refl _ _) (.inl hs.self) _
  have HZ := Lib.hid hz
  have HO := Lib.hid ho
  clear hz hs hnm ho
  rcases hat with hat | hat
  · go_enter Try.func17, Try.ntmps17
    go_wp2
    go_ret
    exact ⟨rfl, HZ.out, HO.out⟩
  · have h0 : 0 ≤ at_ := by omega
    go_enter Try.func17, Try.ntmps17
    go_wp2
    go_ret
    exact ⟨rfl, HZ.out, HO.out⟩
/-- What Ends leaves. -/
def EndsPost (w : World) (B gs : Nat) (M : List Instr) (F : Blocks) (text : List UInt8) (at_ : Nat) (e : Ending) (w' : World) : Prop :=
  ∃ (v : Value) (F' : Blocks), e = .returned v ∧ Own Rep.bool 4 w' w.heap.size nob v (fromAll M text at_ 0).1 ∧ Srch w' B gs M F' (fromAll M text at_ 0).2.2 (fromAll M text at_ 0).1 ∧ Only F w w' ∧ (∀ b, F' b → F b ∨ w.heap.size ≤ b) ∧ ∀ b, v.ownBlock = some b → ¬ F' b
set_option maxRecDepth 100000 in
set_option maxHeartbeats 2000000 in
theorem ends_in (at_ : Nat) (text : List UInt8) (S : Blocks) (hs : Srch w B gs M F steps E) (hwf : Wf M) (hM : 0 < M.length) (hM2 : M.length ≤ 1048576) (hn : n ≤ 1048576) (hMn : M.length * (n + 1) ≤ 68719476736)
    (hnt : n = text.length) (hat : at_ ≤ n) (htx : SliceAt Rep.byte w S A c text) (hS : ∀ b, S b → b < w.heap.size ∧ ¬ F b) :
    Calls Try.prog 17 #[.pointer (some ⟨gs, 0, none⟩), .slice A n c, .int .i64 at_] w (EndsPost w B gs M F text at_) := by
  obtain ⟨hc6, hf6, hz⟩ := hs.zero
  obtain ⟨Am, nm, cm, hc0, hnm⟩ := hs.machine
  have hnm0 : ((nm : Int) == 0) = false := by rw [beq_eq_false_iff_ne]; omega
  have ho : Only F w (w.setCell ⟨gs, 6, none⟩ (.int .i64 0)) := Only.setCell (Only.refl _ _) (.inl hs.self) _
  have htx1 : SliceAt Rep.byte (w.setCell ⟨gs, 6, none⟩ (.int .i64 0)) S A c text := htx.keep (fun _ h => h) (ho.same hS)
  have hS1 : ∀ b, S b → b < (w.setCell ⟨gs, 6, none⟩ (.int .i64 0)).heap.size ∧ ¬ F b := fun b hb => ⟨Nat.lt_of_lt_of_le (hS b hb).1 ho.size, (hS b hb).2⟩
  have hfrom := from_any B gs M F 0 E _ A n c at_ text S hz hwf hM hM2 (by omega) hn hMn hnt hat htx1 hS1
  have HN := Lib.hid hnt
  have HF := Lib.hid hfrom
  have HO := Lib.hid ho
  clear hz hs hnm ho htx1 hS1 hfrom htx hS hwf hMn hnt
  go_enter Try.func17, Try.ntmps17
  go_wp2_with (first | (go_at_call 30; refine HF.out.mono ?_; rintro e w2 ⟨last, E', steps', F', rfl, hall, hs2, ho2, hF2⟩; obtain ⟨A5, n5, c5, hc5, hn5, hsl⟩ := hs2.ends; have hlen := fromAll_len M text at_ 0; rw [← hall] at hlen; have hmk := run_make_bools w2 n5 (by have := HN.out; simp only at hlen; omega); have hgl := (hs2.lt gs hs2.self).2; have hown := Own.made Rep.bool 4 w2 n5 w.heap.size (.bool false) false (fun _ => rfl) rfl (by have := ho2.size; have := HO.out.size; omega) (by have := HN.out; simp only [maxLen]; simp only at hlen; omega); have hsl2 := hsl.keep (fun _ h => h) (Same.of_below ((Below.refl w2.heap.size w2).alloc (Nat.le_refl _) (.cells (madeCells #[.bool false] n5) 4)) (fun b hb => (hs2.lt b hb).2)); have HALL := Lib.hid hall; have HS2 := Lib.hid hs2; have HO2 := Lib.hid ho2; have HF2 := Lib.hid hF2; have HN5 := Lib.hid hn5; have HSL := Lib.hid hsl2; have HLEN := Lib.hid hlen; have HOWN := Lib.hid hown; clear hall hs2 ho2 hF2 hn5 hsl hsl2 hlen hown) | (refine wpList_copy_Own _ rfl (.tmp 39) (.tmp 43) 38 38 rfl Rep.bool w.heap.size 4 1 stBools _ _ _ _ HOWN.out _ _ _ _ HSL.out HN5.out.symm (fun _ _ h => h) rfl rfl ?_; intro w4 hown4 ho4; have HOWN4 := Lib.hid hown4; have HO4 := Lib.hid ho4; clear hown4 ho4))
  go_ret
  have e0 : (E', last, steps') = fromAll M text at_ 0 := HALL.out
  have hs4 : Srch w4 B gs M F' steps' E' := (HS2.out.far ((Below.refl _ _).alloc (Nat.le_refl _) _)).only HO4.out fun b hb e => by
    simp [Value.ownBlock] at e
    have := (HS2.out.lt b hb).2
    omega
  have z1 := HO.out.size
  have z2 := HO2.out.size
  unfold EndsPost
  rw [← e0]
  refine ⟨_, F', rfl, HOWN4.out, hs4, ?_, fun b hb => ?_, fun b hb hF => ?_⟩
  · refine ((HO.out.trans HO2.out fun b hb => .inl hb).alloc _).trans HO4.out fun b hb => ?_
    simp [Value.ownBlock] at hb
    exact .inr (by omega)
  · rcases HF2.out b hb with h | h
    · exact .inl h
    · exact .inr (by omega)
  · simp [Value.ownBlock] at hb
    have := (HS2.out.lt b hF).2
    omega
end
end Go.Proofs.Ytfbaaccnnogajaa
