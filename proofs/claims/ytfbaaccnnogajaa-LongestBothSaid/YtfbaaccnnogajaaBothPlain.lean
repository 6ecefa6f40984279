/- A machine that begins with a split into two machines ends where either ends. Plain: members of the lists, not their order. -/
import Derived.Test.YtfbaaccnnogajaaShiftsPlain
import Derived.Test.YtfbaaccnnogajaaShapedM
namespace Go.Proofs.Ytfbaaccnnogajaa

/-- What runs come to at a place. -/
inductive Reach (M : List Instr) (n p : Nat) (l : List Nat) : Nat → Prop
  | base {k} : k ∈ l → Reach M n p l k
  | step {k t} : Reach M n p l k → t ∈ targets M n p k → Reach M n p l t
theorem mem_addN {l : List Nat} {k t : Nat} : t ∈ addN l k ↔ t ∈ l ∨ t = k := by
  unfold addN
  split
  · constructor
    · exact Or.inl
    · rintro (h | rfl) <;> assumption
  · simp
theorem mem_foldl : ∀ (ts l : List Nat) (t : Nat), t ∈ ts.foldl addN l ↔ t ∈ l ∨ t ∈ ts := by
  intro ts
  induction ts with
  | nil => intro l t; simp
  | cons x ts ih =>
    intro l t
    rw [List.foldl_cons, ih, mem_addN, List.mem_cons]
    constructor
    · rintro ((h | h) | h)
      · exact .inl h
      · exact .inr (.inl h)
      · exact .inr (.inr h)
    · rintro (h | h | h)
      · exact .inl (.inl h)
      · exact .inl (.inr h)
      · exact .inr h
theorem closeGo_sound (M : List Instr) (n p : Nat) (l0 : List Nat) : ∀ (f i : Nat) (l : List Nat), (∀ k ∈ l, Reach M n p l0 k) → ∀ k ∈ closeGo M n p f i l, Reach M n p l0 k := by
  intro f
  induction f with
  | zero => intro i l h; exact h
  | succ f ih =>
    intro i l h
    rw [closeGo]
    split
    · exact h
    · rename_i k hk
      refine ih _ _ fun t ht => ?_
      rcases (mem_foldl _ _ _).1 ht with h1 | h1
      · exact h t h1
      · exact .step (h k (List.mem_of_getElem? hk)) h1
theorem closeGo_full {M : List Instr} (hwf : Wf M) (n p : Nat) : ∀ (f i : Nat) (l : List Nat), f + i = M.length → l.Nodup → (∀ k ∈ l, k < M.length) → (∀ j k, j < i → l[j]? = some k → ∀ t ∈ targets M n p k, t ∈ l) → ∀ k ∈ closeGo M n p f i l, ∀ t ∈ targets M n p k, t ∈ closeGo M n p f i l := by
  intro f
  induction f with
  | zero =>
    intro i l hf hn hl h k hk
    simp only [closeGo] at hk ⊢
    obtain ⟨j, hj⟩ := List.mem_iff_getElem?.1 hk
    have h1 : l.length ≤ M.length := nodup_len _ l hn hl
    obtain ⟨h2, _⟩ := List.getElem?_eq_some_iff.1 hj
    exact h j k (by omega) hj
  | succ f ih =>
    intro i l hf hn hl h k hk
    cases hx : l[i]? with
    | none =>
      simp only [closeGo, hx] at hk ⊢
      obtain ⟨j, hj⟩ := List.mem_iff_getElem?.1 hk
      obtain ⟨h2, _⟩ := List.getElem?_eq_some_iff.1 hj
      have h3 := List.getElem?_eq_none_iff.1 hx
      exact h j k (by omega) hj
    | some x =>
      simp only [closeGo, hx] at hk ⊢
      have hxM := hl x (List.mem_of_getElem? hx)
      obtain ⟨h3, h4⟩ := foldl_lt (M := M) _ l (targets_lt hwf (n := n) p hxM) hn hl
      refine ih (i + 1) _ (by omega) h3 h4 ?_ k hk
      intro j y hj hy t ht
      obtain ⟨h2, h5⟩ := List.getElem?_eq_some_iff.1 hx
      have h6 : l[j]? = some y := by
        have h7 : j < l.length := by omega
        have := (List.prefix_iff_getElem?.1 (foldl_pre (targets M n p x) l)) j h7
        rw [this] at hy; rw [List.getElem?_eq_getElem h7]; exact hy
      rw [mem_foldl]
      rcases Nat.lt_or_ge j i with h8 | h8
      · exact .inl (h j y h8 h6 t ht)
      · have : j = i := by omega
        subst this
        rw [hx] at h6; cases h6
        exact .inr ht
theorem mem_close {M : List Instr} (hwf : Wf M) (n p : Nat) (l : List Nat) (hn : l.Nodup) (hl : ∀ k ∈ l, k < M.length) (k : Nat) : k ∈ close M n p l ↔ Reach M n p l k := by
  constructor
  · exact closeGo_sound M n p l _ _ _ (fun _ h => .base h) k
  · intro h
    induction h with
    | base h => exact (close_pre M n p l).subset h
    | step _ ht ih => exact closeGo_full hwf n p _ _ l (by omega) hn hl (by intro j _ h; omega) _ ih _ ht
theorem mem_wayGo (M : List Instr) (b : UInt8) (here : List Nat) (t : Nat) : t ∈ wayGo M b here ↔ ∃ j ∈ here, takes M b j = true ∧ t = j + 1 := by
  have H : ∀ (here way : List Nat), t ∈ here.foldl (fun way k => if takes M b k then addN way (k + 1) else way) way ↔ t ∈ way ∨ ∃ j ∈ here, takes M b j = true ∧ t = j + 1 := by
    intro here
    induction here with
    | nil => intro way; simp
    | cons x here ih =>
      intro way
      rw [List.foldl_cons, ih]
      by_cases hx : takes M b x = true
      · rw [if_pos hx, mem_addN]
        constructor
        · rintro ((h | h) | ⟨j, hj, h⟩)
          · exact .inl h
          · exact .inr ⟨x, by simp, hx, h⟩
          · exact .inr ⟨j, by simp [hj], h⟩
        · rintro (h | ⟨j, hj, h1, h2⟩)
          · exact .inl (.inl h)
          · rcases List.mem_cons.1 hj with rfl | hj
            · exact .inl (.inr h2)
            · exact .inr ⟨j, hj, h1, h2⟩
      · rw [if_neg hx]
        constructor
        · rintro (h | ⟨j, hj, h⟩)
          · exact .inl h
          · exact .inr ⟨j, by simp [hj], h⟩
        · rintro (h | ⟨j, hj, h1, h2⟩)
          · exact .inl h
          · rcases List.mem_cons.1 hj with rfl | hj
            · exact absurd h1 hx
            · exact .inr ⟨j, hj, h1, h2⟩
  have := H here []
  simpa [wayGo] using this
/-- Whether an end is met at t, from the place p on. -/
def endB (M : List Instr) (text : List UInt8) : Nat → Nat → List Nat → Nat → Bool
  | 0, _, _, _ => false
  | f + 1, p, l, t => if t = p then (close M text.length p l).any (isDone M) else match text[p]? with
    | none => false
    | some b => endB M text f (p + 1) (wayGo M b (close M text.length p l)) t
theorem closeGo_nil (M : List Instr) (n p f i : Nat) : closeGo M n p f i [] = [] := by
  cases f <;> rfl
theorem endB_nil (M : List Instr) (text : List UInt8) : ∀ (f p t : Nat), endB M text f p [] t = false := by
  intro f
  induction f with
  | zero => intros; rfl
  | succ f ih =>
    intro p t
    rw [endB, close, closeGo_nil]
    split
    · rfl
    · split
      · rfl
      · exact ih _ _
theorem fromGo_endB (M : List Instr) (text : List UInt8) : ∀ (f p : Nat) (l : List Nat) (ends : List Bool) (last : Int) (s t : Nat), f + p = text.length + 1 → ends.length = text.length + 1 → p ≤ t → ends.getD t false = false → (fromGo M text f p l ends last s).1.getD t false = endB M text f p l t := by
  intro f
  induction f with
  | zero => intro p l ends last s t _ _ _ h; exact h
  | succ f ih =>
    intro p l ends last s t hf hl ht h
    rw [fromGo, endB]
    by_cases h0 : l = []
    · rw [if_pos h0]
      have := endB_nil M text (f + 1) p t
      rw [endB, ← h0] at this
      rw [this]; exact h
    rw [if_neg h0]
    simp only
    obtain ⟨c, hc⟩ : ∃ c, c = (close M text.length p l).any (isDone M) := ⟨_, rfl⟩
    rw [← hc]
    have hset : (if c then ends.set p true else ends).getD t false = if t = p then c else false := by
      cases c
      · simp only [Bool.false_eq_true, if_false, h]; split <;> rfl
      · simp only [if_true]
        rw [getD_set _ _ _ (by omega), h]
    by_cases e : t = p
    · rw [if_pos e] at hset ⊢
      cases text[p]? with
      | none => exact hset
      | some b => simp only; rw [fromGo_keep _ _ _ _ _ _ _ _ _ (by omega)]; exact hset
    · rw [if_neg e] at hset ⊢
      cases text[p]? with
      | none => exact hset
      | some b => exact ih _ _ _ _ _ _ (by omega) (by split <;> simp [hl]) (by omega) hset
/-- An instruction, its places moved. -/
def Instr.moved (d : Nat) (i : Instr) : Instr := ⟨i.op, i.set, if i.op = 4 ∨ i.op = 5 then i.x + d else i.x, if i.op = 5 then i.y + d else i.y⟩
/-- A machine that begins with a split into two. -/
def bothM (a b : List Instr) : List Instr := ⟨5, Class.none, 1, (1 + a.length : Nat)⟩ :: (a.map (Instr.moved 1) ++ b.map (Instr.moved (1 + a.length)))
theorem bothM_len (a b : List Instr) : (bothM a b).length = 1 + a.length + b.length := by simp [bothM]; omega
theorem bothM_a {a : List Instr} (b : List Instr) {j : Nat} (h : j < a.length) : (bothM a b)[j + 1]? = some (a[j].moved 1) := by
  rw [bothM, List.getElem?_cons_succ, List.getElem?_append_left (by simpa using h)]
  simp [h]
theorem bothM_b (a : List Instr) {b : List Instr} {j : Nat} (h : j < b.length) : (bothM a b)[j + (1 + a.length)]? = some (b[j].moved (1 + a.length)) := by
  rw [bothM, show j + (1 + a.length) = (j + a.length) + 1 by omega, List.getElem?_cons_succ, List.getElem?_append_right (by simp)]
  simp [h]
theorem targets_moved {M C : List Instr} (hwf : Wf M) (n p d : Nat) {j : Nat} (hj : j < M.length) (h : C[j + d]? = some (M[j].moved d)) : targets C n p (j + d) = (targets M n p j).map (· + d) := by
  rw [targets_at M n p hj, targets, h]
  have hx := (hwf.x j hj).1
  have hy := (hwf.y j hj).1
  obtain ⟨i, hi⟩ : ∃ i, i = M[j] := ⟨_, rfl⟩
  rw [← hi] at hx hy ⊢
  have e1 : (i.moved d).op = i.op := rfl
  have e2 : (i.moved d).x = if i.op = 4 ∨ i.op = 5 then i.x + d else i.x := rfl
  have e3 : (i.moved d).y = if i.op = 5 then i.y + d else i.y := rfl
  dsimp only
  rw [e1, e2, e3]
  by_cases h2 : i.op = 2
  · rw [if_pos h2, if_pos h2]
    by_cases hp : p = 0
    · rw [if_pos hp, if_pos hp, List.map_singleton]; congr 1; omega
    · rw [if_neg hp, if_neg hp, List.map_nil]
  by_cases h3 : i.op = 3
  · rw [if_neg h2, if_neg h2, if_pos h3, if_pos h3]
    by_cases hp : p = n
    · rw [if_pos hp, if_pos hp, List.map_singleton]; congr 1; omega
    · rw [if_neg hp, if_neg hp, List.map_nil]
  by_cases h4 : i.op = 4
  · rw [if_neg h2, if_neg h2, if_neg h3, if_neg h3, if_pos h4, if_pos h4, if_pos (.inl h4), List.map_singleton]; congr 1; omega
  by_cases h5 : i.op = 5
  · rw [if_neg h2, if_neg h2, if_neg h3, if_neg h3, if_neg h4, if_neg h4, if_pos h5, if_pos h5, if_pos (.inr h5), if_pos h5, List.map_cons, List.map_singleton]
    rw [show (i.x + (d : Int)).toNat = i.x.toNat + d by omega, show (i.y + (d : Int)).toNat = i.y.toNat + d by omega]
  · rw [if_neg h2, if_neg h2, if_neg h3, if_neg h3, if_neg h4, if_neg h4, if_neg h5, if_neg h5, List.map_nil]
theorem takes_moved {M C : List Instr} (b : UInt8) (d : Nat) {j : Nat} (hj : j < M.length) (h : C[j + d]? = some (M[j].moved d)) : takes C b (j + d) = takes M b j := by
  rw [takes, takes, h, List.getElem?_eq_getElem hj]; rfl
theorem isDone_moved {M C : List Instr} (d : Nat) {j : Nat} (hj : j < M.length) (h : C[j + d]? = some (M[j].moved d)) : isDone C (j + d) = isDone M j := by
  rw [isDone, isDone, h, List.getElem?_eq_getElem hj]; rfl
section
variable {a b : List Instr} (ha : Wf a) (hb : Wf b) (n p : Nat) {la lb lc : List Nat}
/-- What the members of the three lists say of one another. -/
structure Three (z : Prop) (a b : List Instr) (la lb lc : List Nat) : Prop where
  zero : 0 ∈ lc ↔ z
  za : z → 0 ∈ la
  zb : z → 0 ∈ lb
  of : ∀ k ∈ lc, (k = 0 ∧ z) ∨ (∃ j ∈ la, k = j + 1) ∨ (∃ j ∈ lb, k = j + (1 + a.length))
  toA : ∀ j ∈ la, j + 1 ∈ lc ∨ (j = 0 ∧ z)
  toB : ∀ j ∈ lb, j + (1 + a.length) ∈ lc ∨ (j = 0 ∧ z)
  ltA : ∀ j ∈ la, j < a.length
  ltB : ∀ j ∈ lb, j < b.length
theorem targets_zero : targets (bothM a b) n p 0 = [1, 1 + a.length] := by
  rw [targets, bothM, List.getElem?_cons_zero]
  simp; omega
include ha hb in
theorem reach_of {z : Prop} (h : Three z a b la lb lc) {k : Nat} (hk : Reach (bothM a b) n p lc k) : (k = 0 ∧ z) ∨ (∃ j, (Reach a n p la j ∧ j < a.length) ∧ k = j + 1) ∨ (∃ j, (Reach b n p lb j ∧ j < b.length) ∧ k = j + (1 + a.length)) := by
  induction hk with
  | base h1 =>
    rcases h.of _ h1 with h2 | ⟨j, hj, h2⟩ | ⟨j, hj, h2⟩
    · exact .inl h2
    · exact .inr (.inl ⟨j, ⟨.base hj, h.ltA j hj⟩, h2⟩)
    · exact .inr (.inr ⟨j, ⟨.base hj, h.ltB j hj⟩, h2⟩)
  | step _ ht ih =>
    rcases ih with ⟨rfl, hz⟩ | ⟨j, ⟨hj, hl⟩, rfl⟩ | ⟨j, ⟨hj, hl⟩, rfl⟩
    · rw [targets_zero] at ht
      rcases List.mem_cons.1 ht with rfl | ht
      · exact .inr (.inl ⟨0, ⟨.base (h.za hz), h.ltA 0 (h.za hz)⟩, rfl⟩)
      · rw [List.mem_singleton.1 ht]
        exact .inr (.inr ⟨0, ⟨.base (h.zb hz), h.ltB 0 (h.zb hz)⟩, by omega⟩)
    · rw [targets_moved ha n p 1 hl (bothM_a b hl)] at ht
      obtain ⟨t, h1, rfl⟩ := List.mem_map.1 ht
      exact .inr (.inl ⟨t, ⟨.step hj h1, targets_lt ha p hl t h1⟩, rfl⟩)
    · rw [targets_moved hb n p _ hl (bothM_b a hl)] at ht
      obtain ⟨t, h1, rfl⟩ := List.mem_map.1 ht
      exact .inr (.inr ⟨t, ⟨.step hj h1, targets_lt hb p hl t h1⟩, rfl⟩)
include ha in
theorem reach_a {z : Prop} (h : Three z a b la lb lc) {j : Nat} (hj : Reach a n p la j) : j < a.length ∧ Reach (bothM a b) n p lc (j + 1) := by
  induction hj with
  | @base j hj =>
    refine ⟨h.ltA _ hj, ?_⟩
    rcases h.toA _ hj with h1 | ⟨rfl, hz⟩
    · exact .base h1
    · exact .step (.base (h.zero.2 hz)) (by rw [targets_zero]; simp)
  | step _ ht ih =>
    refine ⟨targets_lt ha p ih.1 _ ht, .step ih.2 ?_⟩
    rw [targets_moved ha n p 1 ih.1 (bothM_a b ih.1)]
    exact List.mem_map.2 ⟨_, ht, rfl⟩
include hb in
theorem reach_b {z : Prop} (h : Three z a b la lb lc) {j : Nat} (hj : Reach b n p lb j) : j < b.length ∧ Reach (bothM a b) n p lc (j + (1 + a.length)) := by
  induction hj with
  | @base j hj =>
    refine ⟨h.ltB _ hj, ?_⟩
    rcases h.toB _ hj with h1 | ⟨rfl, hz⟩
    · exact .base h1
    · exact .step (.base (h.zero.2 hz)) (by rw [targets_zero]; simp)
  | step _ ht ih =>
    refine ⟨targets_lt hb p ih.1 _ ht, .step ih.2 ?_⟩
    rw [targets_moved hb n p _ ih.1 (bothM_b a ih.1)]
    exact List.mem_map.2 ⟨_, ht, rfl⟩
end
theorem bothM_at (a b : List Instr) : ∀ k (h : k < (bothM a b).length), (k = 0 ∧ (bothM a b)[k] = ⟨5, Class.none, 1, (1 + a.length : Nat)⟩) ∨ (∃ j, ∃ hj : j < a.length, k = j + 1 ∧ (bothM a b)[k] = a[j].moved 1) ∨ (∃ j, ∃ hj : j < b.length, k = j + (1 + a.length) ∧ (bothM a b)[k] = b[j].moved (1 + a.length)) := by
  intro k hk
  rw [bothM_len] at hk
  have e : (bothM a b)[k]? = some (bothM a b)[k] := List.getElem?_eq_getElem (by rw [bothM_len]; exact hk)
  rcases Nat.eq_zero_or_pos k with rfl | h0
  · exact .inl ⟨rfl, rfl⟩
  rcases Nat.lt_or_ge k (1 + a.length) with h1 | h1
  · have hj : k - 1 < a.length := by omega
    have h2 := bothM_a b hj
    rw [show k - 1 + 1 = k by omega, e] at h2
    exact .inr (.inl ⟨k - 1, hj, by omega, Option.some.inj h2⟩)
  · have hj : k - (1 + a.length) < b.length := by omega
    have h2 := bothM_b a hj
    rw [show k - (1 + a.length) + (1 + a.length) = k by omega, e] at h2
    exact .inr (.inr ⟨k - (1 + a.length), hj, by omega, Option.some.inj h2⟩)
theorem bothM_shaped {a b : List Instr} (ha : MShaped a) (hb : MShaped b) (hl : a.length + b.length ≤ 65536) : MShaped (bothM a b) := by
  obtain ⟨ha0, _, ha2⟩ := ha
  obtain ⟨hb0, _, hb2⟩ := hb
  refine ⟨by rw [bothM_len]; omega, by rw [bothM_len]; omega, fun k hk => ?_⟩
  have hlen := bothM_len a b
  have key : ∀ (m : List Instr) (d j : Nat) (hj : j < m.length), (∀ k (h : k < m.length), instrOk m.length k m[k]) → d + m.length ≤ (bothM a b).length → instrOk (bothM a b).length (j + d) (m[j].moved d) := by
    intro m d j hj hm hd
    obtain ⟨h1, h2, h3, h4, h5, h6, h7, h8⟩ := hm j hj
    obtain ⟨i, hi⟩ : ∃ i, i = m[j] := ⟨_, rfl⟩
    rw [← hi] at h1 h2 h3 h4 h5 h6 h7 h8 ⊢
    have e1 : (i.moved d).op = i.op := rfl
    have e2 : (i.moved d).x = if i.op = 4 ∨ i.op = 5 then i.x + d else i.x := rfl
    have e3 : (i.moved d).y = if i.op = 5 then i.y + d else i.y := rfl
    have w1 : i.set = if i.op = 1 then i.set else Class.none := congrArg Instr.set h4
    have w2 : i.x = if i.op = 4 ∨ i.op = 5 then i.x else 0 := congrArg Instr.x h4
    have w3 : i.y = if i.op = 5 then i.y else 0 := congrArg Instr.y h4
    refine ⟨h1, h2, fun h => ?_, ?_, ?_, ?_, ?_, ?_⟩
    · have := h3 h; omega
    · have q : (i.moved d).want = ⟨i.op, if i.op = 1 then i.set else Class.none, if i.op = 4 ∨ i.op = 5 then (i.moved d).x else 0, if i.op = 5 then (i.moved d).y else 0⟩ := rfl
      rw [q, ← w1, e2, e3]
      show (⟨i.op, i.set, _, _⟩ : Instr) = _
      congr 1
      · split
        · rfl
        · rename_i hn; rw [w2, if_neg hn]
      · split
        · rfl
        · rename_i hn; rw [w3, if_neg hn]
    · rw [e2]; split <;> omega
    · rw [e2]; split <;> omega
    · rw [e3]; split <;> omega
    · rw [e3]; split <;> omega
  rcases bothM_at a b k hk with ⟨rfl, e⟩ | ⟨j, hj, rfl, e⟩ | ⟨j, hj, rfl, e⟩
  · rw [e]
    refine ⟨by simp, by simp, by simp, rfl, by simp, ?_, ?_, ?_⟩ <;> simp only <;> omega
  · rw [e]; exact key a 1 j hj ha2 (by omega)
  · rw [e]; exact key b (1 + a.length) j hj hb2 (by omega)
/-- A list of instructions, each once. -/
def Good (M : List Instr) (l : List Nat) : Prop := l.Nodup ∧ ∀ k ∈ l, k < M.length
theorem takes_next {M : List Instr} (hwf : Wf M) (b : UInt8) {k : Nat} (h : takes M b k = true) : k + 1 < M.length := by
  unfold takes at h
  cases hk : M[k]? with
  | none => rw [hk] at h; cases h
  | some i =>
    rw [hk] at h
    obtain ⟨hl, rfl⟩ := List.getElem?_eq_some_iff.1 hk
    simp only [Bool.and_eq_true, decide_eq_true_eq] at h
    exact hwf.next k hl (by omega)
theorem wayGo_good {M : List Instr} (hwf : Wf M) (b : UInt8) (here : List Nat) : Good M (wayGo M b here) := by
  refine ⟨?_, fun k hk => ?_⟩
  · have : ∀ (here way : List Nat), way.Nodup → (here.foldl (fun way k => if takes M b k then addN way (k + 1) else way) way).Nodup := by
      intro here
      induction here with
      | nil => intro way h; exact h
      | cons x here ih =>
        intro way h
        rw [List.foldl_cons]
        refine ih _ ?_
        split
        · exact addN_nodup h _
        · exact h
    exact this here [] List.nodup_nil
  · obtain ⟨j, _, h, rfl⟩ := (mem_wayGo M b here k).1 hk
    exact takes_next hwf b h
theorem isDone_zero (a b : List Instr) : isDone (bothM a b) 0 = false := rfl
theorem takes_zero (a b : List Instr) (c : UInt8) : takes (bothM a b) c 0 = false := rfl
section
variable {a b : List Instr} (ha : Wf a) (hb : Wf b) (hc : Wf (bothM a b)) (n p : Nat) {la lb lc : List Nat} {z : Prop}
include ha hb hc
theorem close_three (h : Three z a b la lb lc) (ga : Good a la) (gb : Good b lb) (gc : Good (bothM a b) lc) (k : Nat) : k ∈ close (bothM a b) n p lc ↔ (k = 0 ∧ z) ∨ (∃ j ∈ close a n p la, k = j + 1) ∨ (∃ j ∈ close b n p lb, k = j + (1 + a.length)) := by
  rw [mem_close hc n p lc gc.1 gc.2]
  constructor
  · intro hk
    rcases reach_of ha hb n p h hk with h1 | ⟨j, ⟨hj, _⟩, h1⟩ | ⟨j, ⟨hj, _⟩, h1⟩
    · exact .inl h1
    · exact .inr (.inl ⟨j, (mem_close ha n p la ga.1 ga.2 j).2 hj, h1⟩)
    · exact .inr (.inr ⟨j, (mem_close hb n p lb gb.1 gb.2 j).2 hj, h1⟩)
  · rintro (⟨rfl, hz⟩ | ⟨j, hj, rfl⟩ | ⟨j, hj, rfl⟩)
    · exact .base (h.zero.2 hz)
    · exact (reach_a ha n p h ((mem_close ha n p la ga.1 ga.2 j).1 hj)).2
    · exact (reach_b hb n p h ((mem_close hb n p lb gb.1 gb.2 j).1 hj)).2
theorem done_three (h : Three z a b la lb lc) (ga : Good a la) (gb : Good b lb) (gc : Good (bothM a b) lc) : (close (bothM a b) n p lc).any (isDone (bothM a b)) = ((close a n p la).any (isDone a) || (close b n p lb).any (isDone b)) := by
  have H := close_three ha hb hc n p h ga gb gc
  have hA := (close_lt ha (n := n) p la ga.1 ga.2).2
  have hB := (close_lt hb (n := n) p lb gb.1 gb.2).2
  rw [Bool.eq_iff_iff]
  simp only [Bool.or_eq_true, List.any_eq_true]
  constructor
  · rintro ⟨k, hk, hd⟩
    rcases (H k).1 hk with ⟨rfl, _⟩ | ⟨j, hj, rfl⟩ | ⟨j, hj, rfl⟩
    · rw [isDone_zero] at hd; cases hd
    · rw [isDone_moved 1 (hA j hj) (bothM_a b (hA j hj))] at hd; exact .inl ⟨j, hj, hd⟩
    · rw [isDone_moved _ (hB j hj) (bothM_b a (hB j hj))] at hd; exact .inr ⟨j, hj, hd⟩
  · rintro (⟨j, hj, hd⟩ | ⟨j, hj, hd⟩)
    · exact ⟨j + 1, (H _).2 (.inr (.inl ⟨j, hj, rfl⟩)), by rw [isDone_moved 1 (hA j hj) (bothM_a b (hA j hj))]; exact hd⟩
    · exact ⟨j + (1 + a.length), (H _).2 (.inr (.inr ⟨j, hj, rfl⟩)), by rw [isDone_moved _ (hB j hj) (bothM_b a (hB j hj))]; exact hd⟩
theorem way_three (c : UInt8) (h : Three z a b la lb lc) (ga : Good a la) (gb : Good b lb) (gc : Good (bothM a b) lc) : Three False a b (wayGo a c (close a n p la)) (wayGo b c (close b n p lb)) (wayGo (bothM a b) c (close (bothM a b) n p lc)) := by
  have H := close_three ha hb hc n p h ga gb gc
  have hA := (close_lt ha (n := n) p la ga.1 ga.2).2
  have hB := (close_lt hb (n := n) p lb gb.1 gb.2).2
  refine ⟨⟨fun h0 => ?_, False.elim⟩, False.elim, False.elim, fun k hk => ?_, fun j hj => ?_, fun j hj => ?_, (wayGo_good ha c _).2, (wayGo_good hb c _).2⟩
  · obtain ⟨j, _, _, h1⟩ := (mem_wayGo _ c _ 0).1 h0
    omega
  · obtain ⟨t, ht, hd, rfl⟩ := (mem_wayGo _ c _ k).1 hk
    rcases (H t).1 ht with ⟨rfl, _⟩ | ⟨j, hj, rfl⟩ | ⟨j, hj, rfl⟩
    · rw [takes_zero] at hd; cases hd
    · rw [takes_moved c 1 (hA j hj) (bothM_a b (hA j hj))] at hd
      exact .inr (.inl ⟨j + 1, (mem_wayGo _ c _ _).2 ⟨j, hj, hd, rfl⟩, rfl⟩)
    · rw [takes_moved c _ (hB j hj) (bothM_b a (hB j hj))] at hd
      exact .inr (.inr ⟨j + 1, (mem_wayGo _ c _ _).2 ⟨j, hj, hd, rfl⟩, by omega⟩)
  · obtain ⟨t, ht, hd, rfl⟩ := (mem_wayGo _ c _ j).1 hj
    exact .inl ((mem_wayGo _ c _ _).2 ⟨t + 1, (H _).2 (.inr (.inl ⟨t, ht, rfl⟩)), by rw [takes_moved c 1 (hA t ht) (bothM_a b (hA t ht))]; exact hd, rfl⟩)
  · obtain ⟨t, ht, hd, rfl⟩ := (mem_wayGo _ c _ j).1 hj
    exact .inl ((mem_wayGo _ c _ _).2 ⟨t + (1 + a.length), (H _).2 (.inr (.inr ⟨t, ht, rfl⟩)), by rw [takes_moved c _ (hB t ht) (bothM_b a (hB t ht))]; exact hd, by omega⟩)
theorem endB_three (text : List UInt8) : ∀ (f p : Nat) (la lb lc : List Nat) (z : Prop) (t : Nat), Three z a b la lb lc → Good a la → Good b lb → Good (bothM a b) lc → endB (bothM a b) text f p lc t = (endB a text f p la t || endB b text f p lb t) := by
  intro f
  induction f with
  | zero => intros; rfl
  | succ f ih =>
    intro p la lb lc z t h ga gb gc
    rw [endB, endB, endB]
    by_cases e : t = p
    · rw [if_pos e, if_pos e, if_pos e]
      exact done_three ha hb hc _ _ h ga gb gc
    · rw [if_neg e, if_neg e, if_neg e]
      cases text[p]? with
      | none => rfl
      | some c => exact ih _ _ _ _ False t (way_three ha hb hc _ _ c h ga gb gc) (wayGo_good ha c _) (wayGo_good hb c _) (wayGo_good hc c _)
end
/-- The ends of a machine that begins with a split into two: those of both. -/
theorem ends_both {a b : List Instr} (ha : MShaped a) (hb : MShaped b) (hl : a.length + b.length ≤ 65536) (text : List UInt8) (p t : Nat) (hp : p ≤ text.length) : (endsAt (bothM a b) text p).getD t false = ((endsAt a text p).getD t false || (endsAt b text p).getD t false) := by
  have hc := bothM_shaped ha hb hl
  rcases Nat.lt_or_ge t p with ht | ht
  · unfold endsAt fromAll
    rw [fromGo_keep _ _ _ _ _ _ _ _ _ ht, fromGo_keep _ _ _ _ _ _ _ _ _ ht, fromGo_keep _ _ _ _ _ _ _ _ _ ht, getD_replicate]; rfl
  · unfold endsAt fromAll
    rw [fromGo_endB _ _ _ _ _ _ _ _ _ (by omega) (by simp) ht (getD_replicate _ _), fromGo_endB _ _ _ _ _ _ _ _ _ (by omega) (by simp) ht (getD_replicate _ _), fromGo_endB _ _ _ _ _ _ _ _ _ (by omega) (by simp) ht (getD_replicate _ _)]
    have good : ∀ M : List Instr, 0 < M.length → Good M [0] := fun M h => ⟨by simp, fun k hk => by simp at hk; omega⟩
    refine endB_three ha.wf hb.wf hc.wf text _ p [0] [0] [0] True t ⟨by simp, by simp, by simp, by simp, by simp, by simp, (good a ha.1).2, (good b hb.1).2⟩ (good _ ha.1) (good _ hb.1) (good _ hc.1)
end Go.Proofs.Ytfbaaccnnogajaa
