/- A search on its way through a text: its state in memory, and come in those words. Conditions: as come's. -/
import Derived.Test.YtfbaaccnnogajaaProg
import Derived.Test.YtfbaaccnnogajaaSearch
namespace Go.Proofs.Ytfbaaccnnogajaa
open Go.RowKit

/-- A search's field of the list that grows: here, or (f) way. -/
abbrev fld (f : Bool) : Nat := if f then 4 else 3
/-- A search on its way through a text: to l runs have come (the list of the field here, or, f, way). F: the blocks that may have turned since w0. -/
structure ST (f : Bool) (w0 w : World) (F : Blocks) (B gs : Nat) (M : List Instr) (vm vt : Value) (ge ce n : Nat) (v vo : Value) (l : List Nat) (Ly : List Int) (st : Int) (steps : Nat) (met : List Int) (E Er : List Bool) : Prop where
  blk : Blk w gs vm vt st (if f then vo else v) (if f then v else vo) (.slice (some ⟨ge, 0, none⟩) (n + 1) ce) steps
  hB : B ≤ gs
  m : Own Rep.instr 64 w B nob vm M
  t : Own (Rep.int .i16) 36 w B nob vt met
  tl : met.length = M.length
  e : Own Rep.bool 4 w B nob (.slice (some ⟨ge, 0, none⟩) ce ce) (E ++ Er)
  el : E.length = n + 1
  h : Own (Rep.int .i64) 3 w B nob v (ints l)
  y : Own (Rep.int .i64) 3 w B nob vo Ly
  hy : ∀ b, v.ownBlock = some b → vo.ownBlock ≠ some b
  marks : Marks met st l
  nd : l.Nodup
  lt : ∀ k ∈ l, k < M.length
  on : Only F w0 w
  fg : F gs
  ft : ∀ b, some b = vt.ownBlock → F b
  fe : F ge ∨ w0.heap.size ≤ ge
  fh : ∀ b, some b = v.ownBlock → F b ∨ w0.heap.size ≤ b
  fy : ∀ b, some b = vo.ownBlock → F b ∨ w0.heap.size ≤ b

section
variable {f : Bool} {w0 w : World} {F : Blocks} {B gs : Nat} {M : List Instr} {vm vt : Value} {ge ce n : Nat} {v vo : Value} {l : List Nat} {Ly : List Int} {st : Int} {steps : Nat} {met : List Int} {E Er : List Bool}

theorem Only.self (w w' : World) (h : w'.heap = w.heap) (ho : w'.os = w.os) (ht : w'.tape = w.tape) (hp : w'.output = w.output) (F : Blocks) : Only F w w' := ⟨ho, ht, hp, by rw [h]; exact Nat.le_refl _, fun b _ _ => by rw [h]⟩
/-- .. stays, where nothing of it has turned. -/
theorem ST.only {w' : World} {G : Blocks} (h : ST f w0 w F B gs M vm vt ge ce n v vo l Ly st steps met E Er) (ho : Only G w w') (hg : ¬ G gs) (hm : ∀ b, vm.ownBlock = some b → ¬ G b) (ht : ∀ b, vt.ownBlock = some b → ¬ G b) (he : ¬ G ge) (hv : ∀ b, v.ownBlock = some b → ¬ G b) (hvo : ∀ b, vo.ownBlock = some b → ¬ G b)
    (hF : ∀ b, G b → F b ∨ w0.heap.size ≤ b) : ST f w0 w' F B gs M vm vt ge ce n v vo l Ly st steps met E Er :=
  { h with
    blk := h.blk.only ho hg
    m := h.m.only ho hm
    t := h.t.only ho ht
    e := h.e.only ho fun b hb => by simp [Value.ownBlock] at hb; rw [← hb]; exact he
    h := h.h.only ho hv
    y := h.y.only ho hvo
    on := h.on.trans ho hF }
theorem ST.far {w' : World} (h : ST f w0 w F B gs M vm vt ge ce n v vo l Ly st steps met E Er) (ho : Only nob w w') : ST f w0 w' F B gs M vm vt ge ce n v vo l Ly st steps met E Er :=
  h.only ho (fun h => h) (fun _ _ h => h) (fun _ _ h => h) (fun h => h) (fun _ _ h => h) (fun _ _ h => h) (fun _ h => h.elim)
theorem ST.drewN (h : ST f w0 w F B gs M vm vt ge ce n v vo l Ly st steps met E Er) (N : Nat) : ST f w0 (w.drewN N) F B gs M vm vt ge ce n v vo l Ly st steps met E Er := h.far ((Only.refl _ _).drewN N)
theorem ST.drew (h : ST f w0 w F B gs M vm vt ge ce n v vo l Ly st steps met E Er) : ST f w0 w.drew F B gs M vm vt ge ce n v vo l Ly st steps met E Er := h.far (Only.self w w.drew rfl rfl rfl rfl _)
theorem ST.ne_m (h : ST f w0 w F B gs M vm vt ge ce n v vo l Ly st steps met E Er) : vm.ownBlock ≠ some gs := h.m.ne_block h.blk (by decide)
theorem ST.ne_t (h : ST f w0 w F B gs M vm vt ge ce n v vo l Ly st steps met E Er) : vt.ownBlock ≠ some gs := h.t.ne_block h.blk (by decide)
theorem ST.ne_e (h : ST f w0 w F B gs M vm vt ge ce n v vo l Ly st steps met E Er) : ge ≠ gs := fun e => h.e.ne_block h.blk (by decide) (by rw [e]; rfl)
theorem ST.ne_h (h : ST f w0 w F B gs M vm vt ge ce n v vo l Ly st steps met E Er) : v.ownBlock ≠ some gs := h.h.ne_block h.blk (by decide)
theorem ST.ne_y (h : ST f w0 w F B gs M vm vt ge ce n v vo l Ly st steps met E Er) : vo.ownBlock ≠ some gs := h.y.ne_block h.blk (by decide)

/-- come onto the list, and the list's new header stored. -/
theorem come_ST (h : ST f w0 w F B gs M vm vt ge ce n v vo l Ly st steps met E Er) (k : Nat) (hk : k < M.length) (hM : M.length ≤ 1099511627776) (hs : steps < 4611686018427387904) :
    Calls Try.prog 33 #[.pointer (some ⟨gs, 0, none⟩), v, .int .i64 k] w fun e w' => ∃ A m c, e = .returned (.slice A m c) ∧ w'.cell? ⟨gs, fld f, none⟩ = some v ∧ w'.frozen? ⟨gs, fld f, none⟩ = false ∧
      Hid (∃ met', ∀ N, ST f w0 ((w'.setCell ⟨gs, fld f, none⟩ (.slice A m c)).drewN N) F B gs M vm vt ge ce n (.slice A m c) vo (addN l k) Ly st (steps + ((addN l k).length - l.length)) met' E Er) := by
  refine (comeS B gs vm vt v st (if f then vo else v) (if f then v else vo) _ steps met l k w h.blk h.t (by rw [h.tl]; exact hk) h.hB h.h h.marks h.nd (fun j hj => by rw [h.tl]; exact h.lt j hj) hs (by rw [h.tl]; exact hM)).mono ?_
  rintro e w' ⟨v', met', rfl, hv, ht, hl, hmk, hb, hon, hat⟩
  obtain ⟨A, m, c, rfl, -, -, -⟩ := hv.form
  refine ⟨A, m, c, rfl, ?_, hb.frozen _, Lib.hid ⟨met', fun N => ?_⟩⟩
  · cases f <;> exact hb.cell _ _ rfl
  have ho5 : Only (fun b => b = gs) w' (w'.setCell ⟨gs, fld f, none⟩ (.slice A m c)) := Only.setCell (F := fun b => b = gs) (Only.refl _ _) (.inl rfl) _
  have hb5 : Blk (w'.setCell ⟨gs, fld f, none⟩ (.slice A m c)) gs vm vt st (if f then vo else .slice A m c) (if f then .slice A m c else vo) (.slice (some ⟨ge, 0, none⟩) (n + 1) ce) (steps + ((addN l k).length - l.length) : Nat) := by
    cases f
    · exact Blk.set gs vm vt st v vo _ _ hb st vt (.slice A m c) vo _ _ 3 (.slice A m c) rfl
    · exact Blk.set gs vm vt st vo v _ _ hb st vt vo (.slice A m c) _ _ 4 (.slice A m c) rfl
  have hG : Only (fun b => b = gs ∨ some b = vt.ownBlock ∨ some b = v.ownBlock) w (w'.setCell ⟨gs, fld f, none⟩ (.slice A m c)) := hon.trans ho5 fun b h => .inl (.inl h)
  have hkeep : ∀ {α : Type} {r : Rep α} {e : TypeId} {u : Value} {L : List α}, Own r e w B nob u L → u.ownBlock ≠ some gs → (∀ b, vt.ownBlock = some b → u.ownBlock ≠ some b) → (∀ b, v.ownBlock = some b → u.ownBlock ≠ some b) → Own r e (w'.setCell ⟨gs, fld f, none⟩ (.slice A m c)) B nob u L := fun h h1 h2 h3 => h.only hG fun b hb h => by
    rcases h with h | h | h
    · exact h1 (by rw [hb, h])
    · exact h2 b h.symm hb
    · exact h3 b h.symm hb
  refine ST.drewN ⟨hb5, h.hB, ?_, ?_, hl.trans h.tl, ?_, h.el, ?_, ?_, ?_, hmk, addN_nodup h.nd k, addN_lt h.lt hk, ?_, h.fg, h.ft, h.fe, ?_, h.fy⟩ N
  · exact hkeep h.m h.ne_m (fun b hb => h.t.ne_type h.m (by decide) hb) (fun b hb => h.h.ne_type h.m (by decide) hb)
  · exact ht.only ho5 fun b hb e => h.ne_t (by rw [hb, e])
  · exact hkeep h.e (fun e => h.ne_e (by simpa [Value.ownBlock] using e)) (fun b hb => h.t.ne_type h.e (by decide) hb) (fun b hb => h.h.ne_type h.e (by decide) hb)
  · exact hv.only ho5 fun b hc e => hv.ne_block hb (by decide) (by rw [hc, e])
  · exact hkeep h.y h.ne_y (fun b hb => h.t.ne_type h.y (by decide) hb) h.hy
  · intro b hb
    rcases hat with e | ⟨q, e, hq⟩
    · rw [e] at hb; exact h.hy b hb
    · rw [e] at hb; injection hb with hb; subst hb
      intro hy
      have := (h.y.block_lt hy).2
      omega
  · refine h.on.trans hG fun b hb => ?_
    rcases hb with e | e | e
    · exact .inl (e ▸ h.fg)
    · exact .inl (h.ft b e)
    · exact h.fh b e
  · intro b hb
    rcases hat with e | ⟨q, e, hq⟩
    · rw [e] at hb; exact h.fh b hb
    · rw [e] at hb; injection hb with hb; subst hb
      exact .inr (Nat.le_trans h.on.size hq)
end
end Go.Proofs.Ytfbaaccnnogajaa
