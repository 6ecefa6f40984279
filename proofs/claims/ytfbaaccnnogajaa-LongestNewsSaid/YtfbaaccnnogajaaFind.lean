/- What a search finds: the walks of (longest.Search).Find and Steps. Conditions: a well shaped machine; the search's parts lie in blocks of the run's own, the text in others; room. -/
import Derived.Test.YtfbaaccnnogajaaProg
import Derived.Test.YtfbaaccnnogajaaEnds
import Derived.Deep.LoopGhost
namespace Go.Proofs.Ytfbaaccnnogajaa
open Go.RowKit

/-- The first place that has an end, and the last end there. -/
def findGo (M : List Instr) (text : List UInt8) : Nat → Nat → Nat → Option (Nat × Int) × Nat
  | 0, _, steps => (none, steps)
  | f + 1, p, steps => if 0 ≤ (fromAll M text p steps).2.1 then (some (p, (fromAll M text p steps).2.1), (fromAll M text p steps).2.2) else findGo M text f (p + 1) (fromAll M text p steps).2.2
def findAll (M : List Instr) (text : List UInt8) (at_ : Nat) : Option (Nat × Int) × Nat := findGo M text (text.length + 1 - at_) at_ 0
def spanA (r : Option (Nat × Int)) : Int := match r with | none => 0 | some (p, _) => p
def spanB (r : Option (Nat × Int)) : Int := match r with | none => 0 | some (_, t) => t

theorem fromGo_steps {M : List Instr} (hwf : Wf M) (text : List UInt8) : ∀ (f p : Nat) (l : List Nat) (ends : List Bool) (last : Int) (steps : Nat), l.Nodup → (∀ k ∈ l, k < M.length) → steps ≤ (fromGo M text f p l ends last steps).2.2 ∧ (fromGo M text f p l ends last steps).2.2 ≤ steps + 2 * (M.length * f) := by
  intro f
  induction f with
  | zero => intros; exact ⟨Nat.le_refl _, by simp [fromGo]⟩
  | succ f ih =>
    intro p l ends last steps h1 h2
    rw [fromGo]
    split
    · exact ⟨Nat.le_refl _, Nat.le_add_right _ _⟩
    · simp only
      obtain ⟨h3, h4⟩ := close_lt hwf (n := text.length) p l h1 h2
      have hc := nodup_len _ _ h3 h4
      rw [Nat.mul_succ]
      split
      · simp only; omega
      · rename_i b hb
        obtain ⟨h5, h6⟩ : (wayGo M b (close M text.length p l)).Nodup ∧ ∀ k ∈ wayGo M b (close M text.length p l), k < M.length := by
          have : ∀ (here way : List Nat), (∀ k ∈ here, k < M.length) → way.Nodup → (∀ k ∈ way, k < M.length) → (here.foldl (wstep M b) way).Nodup ∧ ∀ k ∈ here.foldl (wstep M b) way, k < M.length := by
            intro here
            induction here with
            | nil => intro way _ h1 h2; exact ⟨h1, h2⟩
            | cons k here ih =>
              intro way hl h1 h2
              have hk := hl k (by simp)
              rw [List.foldl_cons]
              refine ih _ (fun j hj => hl j (by simp [hj])) ?_ ?_
              · unfold wstep; split
                · exact addN_nodup h1 _
                · exact h1
              · unfold wstep; split
                · rename_i ht
                  unfold takes at ht
                  rw [List.getElem?_eq_getElem hk] at ht
                  simp only [Bool.and_eq_true, decide_eq_true_eq] at ht
                  exact addN_lt h2 (hwf.next k hk (by omega))
                · exact h2
          exact this _ [] h4 (by simp) (by simp)
        have hw := nodup_len _ _ h5 h6
        have := ih (p + 1) (wayGo M b (close M text.length p l)) (if (close M text.length p l).any (isDone M) then ends.set p true else ends) (if (close M text.length p l).any (isDone M) then (p : Int) else last) (steps + ((close M text.length p l).length - l.length) + (wayGo M b (close M text.length p l)).length) h5 h6
        omega
theorem fromAll_steps {M : List Instr} (hwf : Wf M) (hM : 0 < M.length) (text : List UInt8) (at_ steps : Nat) : steps ≤ (fromAll M text at_ steps).2.2 ∧ (fromAll M text at_ steps).2.2 ≤ steps + 1 + 2 * (M.length * (text.length + 1)) := by
  have := fromGo_steps hwf text (text.length + 1 - at_) at_ [0] (List.replicate (text.length + 1) false) (-1) (steps + 1) (by simp) (by simpa using hM)
  have h2 : M.length * (text.length + 1 - at_) ≤ M.length * (text.length + 1) := Nat.mul_le_mul_left _ (by omega)
  unfold fromAll
  omega

section
variable (B gs : Nat) (M : List Instr) (F : Blocks) (steps : Nat) (E : List Bool) (w : World) (A : Option Addr) (n c : Nat)
theorem steps_any (hs : Srch w B gs M F steps E) : Calls Try.prog 18 #[.pointer (some ⟨gs, 0, none⟩)] w fun e w' => e = .returned (.int .i64 steps) ∧ w' = w := by
  obtain ⟨hc6, -, -⟩ := hs.zero
  clear hs
  go_enter Try.func18, Try.ntmps18
  go_wp2
  go_ret
  exact ⟨rfl, rfl⟩
theorem steps_nil : Calls Try.prog 18 #[.pointer none] w fun e w' => e = .returned (.int .i64 0) ∧ w' = w := by
  go_enter Try.func18, Try.ntmps18
  go_wp2
  go_ret
  exact ⟨rfl, rfl⟩
/-- What Find leaves. -/
def FindPost (w : World) (B gs : Nat) (M : List Instr) (F : Blocks) (text : List UInt8) (at_ : Nat) (e : Ending) (w' : World) : Prop :=
  ∃ (F' : Blocks) (E' : List Bool), e = .returned (.tuple #[.agg #[.int .i64 (spanA (findAll M text at_).1), .int .i64 (spanB (findAll M text at_).1)], .bool (findAll M text at_).1.isSome]) ∧ Srch w' B gs M F' (findAll M text at_).2 E' ∧ Only F w w' ∧ ∀ b, F' b → F b ∨ w.heap.size ≤ b
set_option maxRecDepth 100000 in
set_option maxHeartbeats 2000000 in
theorem find_neg (at_ : Int) (hs : Srch w B gs M F steps E) (hM : 0 < M.length) (hat : at_ < 0) :
    Calls Try.prog 15 #[.pointer (some ⟨gs, 0, none⟩), .slice A n c, .int .i64 at_] w fun e w' => e = .returned (.tuple #[.agg #[.int .i64 0, .int .i64 0], .bool false]) ∧ Srch w' B gs M F 0 E ∧ Only F w w' := by
  have hgl := (hs.lt gs hs.self).2
  obtain ⟨hc6, hf6, hz⟩ := hs.zero
  obtain ⟨Am, nm, cm, hc0, hnm⟩ := hs.machine
  have hnm0 : ((nm : Int) == 0) = false := by rw [beq_eq_false_iff_ne]; omega
  have ho : Only F w (w.setCell ⟨gs, 6, none⟩ (.int .i64 0)) := Only.setCell (Only.refl _ _) (.inl hs.self) _
  have HZ := Lib.hid hz
  have HO := Lib.hid ho
  clear hs hz ho hnm
  go_enter Try.func15, Try.ntmps15
  go_wp2
  refine bodyPost_ret (v := .tuple #[.agg #[.int .i64 0, .int .i64 0], .bool false]) (by simp [results, Try.results15, go_sem]) rfl ⟨rfl, HZ.out.far ((Below.refl _ _).alloc (Nat.le_refl _) _), HO.out.alloc _⟩
/-- What holds at the loop's head. -/
structure FindRel (w wr : World) (B gs : Nat) (M : List Instr) (F : Blocks) (text : List UInt8) (at_ p : Nat) (F' : Blocks) (E' : List Bool) (steps' : Nat) : Prop where
  s : Srch wr B gs M F' steps' E'
  o : Only F w wr
  f : ∀ b, F' b → F b ∨ w.heap.size < b
  nq : ¬ F w.heap.size
  q : wr.heap[w.heap.size]? = some (.cells #[.int .i64 0, .int .i64 0] 42 (0, 0))
  g : findGo M text (text.length + 1 - p) p steps' = findAll M text at_
  b : steps' ≤ (p - at_) * (1 + 2 * (M.length * (text.length + 1)))
theorem FindRel.from_ {w wr : World} {B gs : Nat} {M : List Instr} {F : Blocks} {text : List UInt8} {at_ p : Nat} {F' : Blocks} {E' : List Bool} {steps' : Nat} (h : FindRel w wr B gs M F text at_ p F' E' steps') {A : Option Addr} {n c : Nat} {S : Blocks} (hwf : Wf M) (hM : 0 < M.length) (hM2 : M.length ≤ 1048576) (hn : n ≤ 1048576)
    (hMn : (n + 1) * (1 + 2 * (M.length * (n + 1))) ≤ 68719476736) (hnt : n = text.length) (hp : p ≤ n) (htx : SliceAt Rep.byte w S A c text) (hS : ∀ b, S b → b < w.heap.size ∧ ¬ F b) :
    Calls Try.prog 30 #[.pointer (some ⟨gs, 0, none⟩), .slice A n c, .int .i64 p] wr fun e w2 => ∃ last E2 steps2 F2, e = .returned (.int .i64 last) ∧ w2.heap[w.heap.size]? = some (.cells #[.int .i64 0, .int .i64 0] 42 (0, 0)) ∧
      Hid (fromAll M text p steps' = (E2, last, steps2)) ∧ Hid (Srch w2 B gs M F2 steps2 E2) ∧ Hid (Only F w w2) ∧ Hid (∀ b, F2 b → F b ∨ w.heap.size < b) := by
  obtain ⟨h1, h2, h3, hnq, h4, h5, h6⟩ := h
  subst hnt
  have hq : w.heap.size < wr.heap.size := (Array.getElem?_eq_some_iff.1 h4).1
  have hb2 : (p - at_) * (1 + 2 * (M.length * (text.length + 1))) ≤ (text.length + 1) * (1 + 2 * (M.length * (text.length + 1))) := Nat.mul_le_mul_right _ (by omega)
  have hMn2 : M.length * (text.length + 1) ≤ 68719476736 := by
    have : 1 * (1 + 2 * (M.length * (text.length + 1))) ≤ (text.length + 1) * (1 + 2 * (M.length * (text.length + 1))) := Nat.mul_le_mul_right _ (by omega)
    omega
  refine (from_any B gs M F' steps' E' wr A text.length c p text S h1 hwf hM hM2 (by omega) hn hMn2 rfl hp (htx.keep (fun _ h => h) (h2.same hS)) fun b hb => ?_).mono ?_
  · obtain ⟨k1, k2⟩ := hS b hb
    refine ⟨by omega, fun hF => ?_⟩
    rcases h3 b hF with h | h
    · exact k2 h
    · omega
  · rintro e w2 ⟨last, E2, steps2, F2, rfl, hall, hs2, ho2, hF2⟩
    refine ⟨last, E2, steps2, F2, rfl, ?_, Lib.hid hall.symm, Lib.hid hs2, Lib.hid ?_, Lib.hid ?_⟩
    · rw [ho2.block _ hq fun hF => ?_, h4]
      rcases h3 _ hF with h | h
      · exact hnq h
      · omega
    · exact h2.trans ho2 fun b hb => by
        rcases h3 b hb with h | h
        · exact .inl h
        · exact .inr (Nat.le_of_lt h)
    · intro b hb
      rcases hF2 b hb with h | h
      · exact h3 b h
      · exact .inr (by omega)
theorem spanOf_some (p : Nat) (t : Int) : spanA (some (p, t)) = p ∧ spanB (some (p, t)) = t := ⟨rfl, rfl⟩
set_option maxRecDepth 100000 in
set_option maxHeartbeats 4000000 in
theorem find_in (at_ : Nat) (text : List UInt8) (S : Blocks) (hs : Srch w B gs M F steps E) (hwf : Wf M) (hM : 0 < M.length) (hM2 : M.length ≤ 1048576) (hn : n ≤ 1048576) (hMn : (n + 1) * (1 + 2 * (M.length * (n + 1))) ≤ 68719476736)
    (hnt : n = text.length) (htx : SliceAt Rep.byte w S A c text) (hS : ∀ b, S b → b < w.heap.size ∧ ¬ F b) :
    Calls Try.prog 15 #[.pointer (some ⟨gs, 0, none⟩), .slice A n c, .int .i64 at_] w (FindPost w B gs M F text at_) := by
  have hgl := (hs.lt gs hs.self).2
  have hnq : ¬ F w.heap.size := fun h => absurd (hs.lt _ h).2 (by omega)
  obtain ⟨hc6, hf6, hz⟩ := hs.zero
  obtain ⟨Am, nm, cm, hc0, hnm⟩ := hs.machine
  have hnm0 : ((nm : Int) == 0) = false := by rw [beq_eq_false_iff_ne]; omega
  have ho : Only F w (w.setCell ⟨gs, 6, none⟩ (.int .i64 0)) := Only.setCell (Only.refl _ _) (.inl hs.self) _
  have HZ := Lib.hid hz
  have HO := Lib.hid ho
  have HL := Lib.hid (fun b hb => (hs.lt b hb).2)
  have HN := Lib.hid hnt
  have HT := Lib.hid htx
  have HS := Lib.hid hS
  have HW := Lib.hid hwf
  have HMN := Lib.hid hMn
  have HNQ := Lib.hid hnq
  clear hs hz ho hnm hnt htx hS hwf hMn hnq
  go_enter Try.func15, Try.ntmps15
  go_wp2_with fail
  go_loopg [8] (n + 1 - at_) (fun k pv wr => ∃ (p : Nat) (F' : Blocks) (E' : List Bool) (steps' : Nat), pv = .int .i64 p ∧ at_ ≤ p ∧ k = n + 1 - p ∧ FindRel w wr B gs M F text at_ p F' E' steps')
  case atStart =>
    refine ⟨at_, F, E, 0, rfl, Nat.le_refl _, rfl, HZ.out.far ((Below.refl _ _).alloc (Nat.le_refl _) _), HO.out.alloc _, fun b hb => .inl hb, HNQ.out, ?_, ?_, Nat.zero_le _⟩
    · have hz := heap_alloc_new (w.setCell ⟨gs, 6, none⟩ (.int .i64 0)) (.cells #[.int .i64 0, .int .i64 0] 42)
      simpa [World.setCell] using hz
    · unfold findAll; rfl
  case round =>
    obtain ⟨p, F', E', steps', rfl, hap, rfl, hrel⟩ := hrel
    by_cases hp : p ≤ n
    · have hc := hrel.from_ HW.out hM hM2 hn HMN.out HN.out hp HT.out HS.out
      have HC := Lib.hid hc
      have HR := Lib.hid hrel
      clear hc hrel
      go_wp2_with (go_at_call 30; refine HC.out.mono ?_; rintro e w2 ⟨last, E2, steps2, F2, rfl, hq2, HALL, HS2, HO2, HF2⟩; have hk0 : w2.cell? ⟨w.heap.size, 0, none⟩ = some (.int .i64 0) := (cell_of_row w2 w.heap.size 0 _ _ _ hq2).trans rfl; have hk1 : w2.cell? ⟨w.heap.size, 1, none⟩ = some (.int .i64 0) := (cell_of_row w2 w.heap.size 1 _ _ _ hq2).trans rfl; have hl0 : w2.frozen? ⟨w.heap.size, 0, none⟩ = false := (by simp [World.frozen?, hq2]); have hl1 : w2.frozen? ⟨w.heap.size, 1, none⟩ = false := (by simp [World.frozen?, hq2]); have HQ2 := Lib.hid hq2; clear hq2)
      · have hl : 0 ≤ last := by omega
        have hres : findAll M text at_ = (some (p, last), steps2) := by
          rw [← HR.out.g, show text.length + 1 - p = (n - p) + 1 by have := HN.out; omega, findGo, HALL.out, if_pos hl]
        have ho3 : Only (fun b => b = w.heap.size) w2 ((w2.setCell ⟨w.heap.size, 0, none⟩ (.int .i64 p)).setCell ⟨w.heap.size, 1, none⟩ (.int .i64 last)) := Only.setCell (F := fun b => b = w.heap.size) (Only.setCell (F := fun b => b = w.heap.size) (Only.refl _ _) (.inl rfl) _) (.inl rfl) _
        refine bodyPost_ret (v := .tuple #[.agg #[.int .i64 p, .int .i64 last], .bool true]) (by simp [results, Try.results15, go_sem, hk0, hk1]) rfl ?_
        refine ⟨F2, E2, by rw [hres]; rfl, ?_, HO2.out.trans ho3 fun b hb => .inr (by rw [hb]; exact Nat.le_refl _), fun b hb => (HF2.out b hb).imp id Nat.le_of_lt⟩
        rw [hres]
        refine HS2.out.only ho3 fun b hb e => ?_
        subst e
        rcases HF2.out _ hb with h | h
        · exact HNQ.out h
        · omega
      · go_roundg (n + 1 - (p + 1))
        case measure => omega
        case rel =>
          have hl : ¬ 0 ≤ last := by omega
          refine ⟨p + 1, F2, E2, steps2, by go_num, by omega, rfl, HS2.out, HO2.out, HF2.out, HNQ.out, HQ2.out, ?_, ?_⟩
          · rw [← HR.out.g, show text.length + 1 - p = (n - p) + 1 by have := HN.out; omega, findGo, HALL.out, if_neg hl, show text.length + 1 - (p + 1) = n - p by have := HN.out; omega]
          · have h1 := HR.out.b
            have h2 := (fromAll_steps HW.out hM text p steps').2
            rw [HALL.out] at h2
            simp only at h2
            rw [show p + 1 - at_ = (p - at_) + 1 by omega, Nat.succ_mul]
            omega
    · have HR := Lib.hid hrel
      have hq := hrel.q
      have hk0 : wr.cell? ⟨w.heap.size, 0, none⟩ = some (.int .i64 0) := (cell_of_row wr w.heap.size 0 _ _ _ hq).trans rfl
      have hk1 : wr.cell? ⟨w.heap.size, 1, none⟩ = some (.int .i64 0) := (cell_of_row wr w.heap.size 1 _ _ _ hq).trans rfl
      have hl0 : wr.frozen? ⟨w.heap.size, 0, none⟩ = false := by simp [World.frozen?, hq]
      have hl1 : wr.frozen? ⟨w.heap.size, 1, none⟩ = false := by simp [World.frozen?, hq]
      clear hq hrel
      go_wp2_with fail
      have hres : findAll M text at_ = (none, steps') := by
        rw [← HR.out.g, show text.length + 1 - p = 0 by have := HN.out; omega]; rfl
      have ho3 : Only (fun b => b = w.heap.size) wr ((wr.setCell ⟨w.heap.size, 0, none⟩ (.int .i64 0)).setCell ⟨w.heap.size, 1, none⟩ (.int .i64 0)) := Only.setCell (F := fun b => b = w.heap.size) (Only.setCell (F := fun b => b = w.heap.size) (Only.refl _ _) (.inl rfl) _) (.inl rfl) _
      refine bodyPost_ret (v := .tuple #[.agg #[.int .i64 0, .int .i64 0], .bool false]) (by simp [results, Try.results15, go_sem, hk0, hk1]) rfl ?_
      refine ⟨F', E', by rw [hres]; rfl, ?_, HR.out.o.trans ho3 fun b hb => .inr (by rw [hb]; exact Nat.le_refl _), fun b hb => (HR.out.f b hb).imp id Nat.le_of_lt⟩
      rw [hres]
      refine HR.out.s.only ho3 fun b hb e => ?_
      subst e
      rcases HR.out.f _ hb with h | h
      · exact HNQ.out h
      · omega
end
end Go.Proofs.Ytfbaaccnnogajaa
