/- Texts that lead to the claim, one behind the other: From a law's walk to its row: the reading of arguments as lists, the row's last step. No program in sight. No conditions. | The reading of arguments as lists, with what the bound on each part's weight (the reach) says of them. No program in sight. No conditions. -/
import Derived.Test.YtnpideapdjomgaaDoorRA0
import Derived.ProofKit
import Derived.OpenShut
import Derived.SizedLaws
import Derived.Test.YtnpideapdjomgaaDoorRows
import Derived.JoinedCond
import Derived.Deep.CondSized
namespace Go.Proofs.YtnpideapdjomgaaDoor
open Go.RowKit Go.ChangeShapes Go.WideShapes Go.Deep

section
variable {H : Type} {enc : TypeId × Value → H} {P : Program}

/-- A type's values read as r says, whatever memory they lie in. -/
def Opens (P : Program) (t : TypeId) {α : Type} (r : Rep α) : Prop :=
  ∀ {H : Type} (enc : TypeId × Value → H) (w : World) (base : Nat) (spare : Nat → Bool) (held : Bool) (fuel : Nat) (cs : List Value) (x : DataW H × List MemPlace),
    DataW.trod enc P w base spare held fuel t cs = some x → ∃ y, r.is w (under w.heap.size) cs y

theorem Opens.int {t : TypeId} {k : IntKind} (ht : P.underlying t = some (.int k)) : Opens P t (Rep.int k) := by
  intro H enc w base spare held fuel cs x h
  obtain ⟨n, rfl, _, hw⟩ := DataW.trod_int ht h
  exact ⟨n, rfl, hw⟩
theorem Opens.byte {t : TypeId} (ht : P.underlying t = some (.int .u8)) : Opens P t Rep.byte := by
  intro H enc w base spare held fuel cs x h
  obtain ⟨n, rfl, _, hw⟩ := DataW.trod_int ht h
  refine ⟨UInt8.ofNat n.toNat, ?_⟩
  simp [Lit.wf, IntKind.min, IntKind.max, IntKind.signed, IntKind.bits] at hw
  show _ = [_]
  congr 2
  simp
  omega
theorem Opens.bool {t : TypeId} (ht : P.underlying t = some .bool) : Opens P t Rep.bool := by
  intro H enc w base spare held fuel cs x h
  obtain ⟨b, rfl, _⟩ := DataW.trod_bool ht h
  exact ⟨b, rfl⟩
theorem Opens.str {t : TypeId} (ht : P.underlying t = some .string) : Opens P t Rep.str := by
  intro H enc w base spare held fuel cs x h
  obtain ⟨s, rfl, _, hs⟩ := DataW.trod_string ht h
  exact ⟨s, rfl, hs⟩
theorem Opens.slice {t e : TypeId} {α : Type} {r : Rep α} (ht : P.underlying t = some (.slice e)) (hn : P.cellsOf e = r.n) (hp : 0 < r.n) (he : Opens P e r) : Opens P t r.slice := by
  intro H enc w base spare held fuel cs x h
  rcases open_slice ht h with ⟨rfl, _⟩ | ⟨a, len, cap, m, n, D, Pl, rfl, hb, hl, hm, hmm, _, hi⟩
  · exact ⟨[], none, 0, rfl, SliceAt.nil _ _ _⟩
  · have hlm : len ≤ m := by rw [hmm]; split <;> omega
    rcases Nat.eq_zero_or_pos len with rfl | hpos
    · exact ⟨[], some a, cap, by simp, by simp, hm, by simp, fun i hi => absurd hi (by simp)⟩
    have hne : Nonempty α := by
      obtain ⟨cs', _, h2⟩ := hi 0 (by omega)
      obtain ⟨y, _⟩ := he enc w base spare held _ _ _ h2
      exact ⟨y⟩
    haveI : Inhabited α := ⟨Classical.choice hne⟩
    obtain ⟨f, hf⟩ := choose_lt (α := α) (n := len) (p := fun i y => ∃ cs', w.cells? base (a.add (i * P.cellsOf e)) (P.cellsOf e) = some cs' ∧ r.is w (under w.heap.size) cs' y) (fun i hi' => by
      obtain ⟨cs', h1, h2⟩ := hi i (by omega)
      obtain ⟨y, hy⟩ := he enc w base spare held _ _ _ h2
      exact ⟨y, cs', h1, hy⟩)
    refine ⟨(List.range len).map f, some a, cap, by simp, by simpa using hl, hm, by simp, fun i hi' => ?_⟩
    simp at hi'
    obtain ⟨cs', h1, hy⟩ := hf i hi'
    obtain ⟨_, hlen, hat⟩ := World.cells?_some h1
    have hn' : 0 < P.cellsOf e := by omega
    have h0 := hat 0 hn'
    have hspot : a.spot = none := by
      have hex : ∃ v, w.cell? ((a.add (i * P.cellsOf e)).add 0) = some v := ⟨_, by rw [h0]; exact List.getElem?_eq_getElem (by omega)⟩
      obtain ⟨v, hv⟩ := hex
      obtain ⟨cs0, hc0, _⟩ := hf 0 (by omega)
      obtain ⟨_, hlen0, hat0⟩ := World.cells?_some hc0
      have h00 := hat0 0 hn'
      rw [List.getElem?_eq_getElem (by omega)] at h00
      have e0 : (a.add (0 * P.cellsOf e)).add 0 = a := by simp [Addr.add]
      rw [e0] at h00
      unfold World.cell? at h00
      split at h00
      · split at h00
        · cases h00
        · rename_i hs; simpa using hs
      · cases h00
    obtain ⟨ab, ao, ax⟩ := a
    simp only at hspot
    subst hspot
    rw [add_plain] at hat h0
    refine ⟨ab, ao, cs', rfl, ?_, fun j u hj => ?_, by simpa using hy⟩
    · rw [add_plain, List.getElem?_eq_getElem (by omega)] at h0
      exact World.block_lt_of_cell? w _ h0
    · have hjl : j < P.cellsOf e := by
        have := (List.getElem?_eq_some_iff.1 hj).1
        omega
      have := hat j hjl
      rw [add_plain, hn] at this
      rw [this]; exact hj

/-- A struct of two fields. -/
theorem Opens.pair {t : TypeId} {f1 f2 : Field} {α β γ : Type} {r : Rep α} {s : Rep β} {f : γ → α × β} (mk : α → β → γ) (hmk : ∀ a b, f (mk a b) = (a, b)) (ht : P.underlying t = some (.struct #[f1, f2]))
    (h1 : P.cellsOf f1.type = r.n) (h2 : P.cellsOf f2.type = s.n) (o1 : f1.offset = 0) (o2 : f2.offset = r.n) (hc : P.cellsOf t = r.n + s.n) (hr : Opens P f1.type r) (hs : Opens P f2.type s) : Opens P t (Rep.pair r s f) := by
  intro H enc w base spare held fuel cs x h
  obtain ⟨ys, n', hn', hy, hlen, hyl, hf⟩ := DataW.trod_struct ht h
  have e1 := hf 0 f1 rfl
  have e2 := hf 1 f2 rfl
  simp at hyl
  rw [List.getElem?_eq_getElem (by omega)] at e1 e2
  obtain ⟨a, ha⟩ := hr enc w base spare held _ _ _ e1
  obtain ⟨b, hb⟩ := hs enc w base spare held _ _ _ e2
  rw [o1, h1, List.drop_zero] at ha
  rw [o2, h2] at hb
  refine ⟨mk a b, _, _, (List.take_append_drop r.n cs).symm, by rw [hmk]; exact ha, ?_⟩
  rw [hmk]
  rwa [List.take_of_length_le (by rw [List.length_drop]; omega)] at hb
end

section
variable {H : Type} {enc : TypeId × Value → H} {P : Program}
/-- An argument of one cell. -/
theorem Opens.arg {t : TypeId} {α : Type} {r : Rep α} (ho : Opens P t r) {w : World} {base : Nat} {spare : Nat → Bool} {held : Bool} {v : Value} {d : DataW H} {p : List MemPlace} (h : DataW.Trod enc P w base spare held t v d p) : ∃ y, r.is w (under w.heap.size) v.cells.toList y := by
  obtain ⟨fuel, hf⟩ := h
  exact ho enc w base spare held fuel _ _ hf
theorem Opens.sliceArg {t : TypeId} {α : Type} {r : Rep α} (ho : Opens P t r.slice) {w : World} {base : Nat} {spare : Nat → Bool} {held : Bool} {v : Value} {d : DataW H} {p : List MemPlace} (hv : ∀ cs, v ≠ .agg cs) (h : DataW.Trod enc P w base spare held t v d p) :
    ∃ A c l, v = .slice A l.length c ∧ SliceAt r w (under w.heap.size) A c l := by
  obtain ⟨l, A, c, e, hs⟩ := ho.arg h
  refine ⟨A, c, l, ?_, hs⟩
  cases v <;> first | (simp [Value.cells] at e; done) | (simpa [Value.cells] using e) | (exact absurd rfl (hv _))

/-- A slice argument's length, bounded by the form's own reach. -/
theorem slice_len {t e : TypeId} (ht : P.underlying t = some (.slice e)) {w : World} {base : Nat} {spare : Nat → Bool} {held : Bool} {A : Option Addr} {n c : Nat} {d : DataW H} {p : List MemPlace} (h : DataW.Trod enc P w base spare held t (.slice A n c) d p)
    {ts : List TypeId} {ds : List (DataW H)} (hsz : (DataW.weightsEach P ts ds).all (· ≤ reachBytes) = true) (j : Nat) (htj : ts[j]? = some t) (hdj : ds[j]? = some d) : n * P.bytesOf e ≤ 140737488351232 := by
  obtain ⟨fuel, hf⟩ := h
  rcases open_slice ht hf with ⟨e1, _⟩ | ⟨a, len, cap, m, n', D, Pl, e1, hb, hl, hm, hmm, hx, hi⟩
  · simp [Value.cells] at e1
    obtain ⟨_, rfl, _⟩ := e1
    omega
  · simp [Value.cells] at e1
    obtain ⟨_, rfl, _⟩ := e1
    simp only [Prod.mk.injEq] at hx
    have := sized_slice hsz htj (by rw [hdj, hx.1]) ht
    simp only [List.length_map, List.length_range] at this
    have h2 : n * P.bytesOf e ≤ (n + (m - n)) * P.bytesOf e := Nat.mul_le_mul_right _ (by omega)
    have h3 : reachBytes = 140737488351232 := rfl
    omega

theorem post_of_below {f : Func} {s : ChangeSpec} {apart fresh handsOn again : Bool} {W W' : World} {args : Array Value} {v : Value} {ds gs : List (DataW H)} {before pa pv : List MemPlace}
    (hW : DataW.Whole enc P f.params.toList s.vars apart W args.toList ds gs before)
    (hres : ∀ (b : Nat) (sp : Nat → Bool) (hd : Bool), DataW.TrodAll enc P W' b sp hd f.resultTypes.toList (v.resultList f.resultTypes.size) (s.fn H (ds ++ gs)).results [])
    (hargs : ∀ sp : Nat → Bool, (∀ p ∈ before, sp p.block = true) → DataW.TrodAll enc P W' 0 sp true f.params.toList args.toList (s.fn H (ds ++ gs)).args pa)
    (hvars : ∀ sp : Nat → Bool, (∀ p ∈ before, sp p.block = true) → DataW.TrodVars enc P W' sp s.vars (s.fn H (ds ++ gs)).vars pv)
    (hps : before = pa ++ pv) (hb : Below W.heap.size W W')
    (hok : ∀ (j : Nat) (t : TypeId) (r : Value), f.resultTypes[j]? = some t → (v.resultList f.resultTypes.size)[j]? = some r → Value.okWide P W' .any 0 t r) :
    s.post enc P f apart fresh handsOn again W args v W' := by
  have hlt : ∀ p ∈ before, p.block < W.heap.size := fun p hp => hW.lt p hp
  have hold : ∀ p ∈ before, (fun b => decide (b < W.heap.size)) p.block = true := fun p hp => by simpa using hlt p hp
  refine ⟨ds, gs, before, [], pa, pv, hW, hres _ _ _, hargs _ hold, hvars _ hold, World.keptBut_mono (fun p hp => ⟨hp, ?_⟩) (hb.frame (· ∈ before)), fun _ => ?_⟩
  · rw [hps, List.mem_append] at hp
    exact Or.inr hp
  · obtain ⟨_, _, _, _, _, hz, hn⟩ := hW
    refine ⟨hok, _, _, ([] ++ pa) ++ pv, ⟨[] ++ pa, pv, trodAll_append (hargs _ (fun _ _ => rfl)) (hres _ _ _), hvars _ (fun _ _ => rfl), rfl, ?_, ?_⟩, ?_⟩
    · intro b off hp
      have hin : MemPlace.cell b off ∈ before := by rw [hps]; simpa using hp
      rw [hb.frozen (hlt _ hin)]
      exact hz b off hin
    · intro ha
      have := hn ha
      rw [hps] at this
      simpa using this
    · intro p hp _
      rw [hps]
      simpa using hp

/-- What arguments read as, they read as behind a call that turns nothing old. -/
theorem TrodAll_below (hl : laidOutB P = true) : ∀ {ts : List TypeId} {vs : List Value} {ds : List (DataW H)} {ps : List MemPlace} {W W' : World}, (∀ t ∈ ts, P.readableRec t = true ∧ t < P.types.size) →
    DataW.TrodAll enc P W 0 (fun _ => true) true ts vs ds ps → Below W.heap.size W W' → (∀ x ∈ ps, x.block < W.heap.size) → ∀ sp : Nat → Bool, (∀ p ∈ ps, sp p.block = true) → DataW.TrodAll enc P W' 0 sp true ts vs ds ps
  | [], [], [], ps, _, _, _, h, _, _, _, _ => h
  | [], [], _ :: _, _, _, _, _, h, _, _, _, _ => h.elim
  | [], _ :: _, _, _, _, _, _, h, _, _, _, _ => by cases ‹List (DataW H)› <;> exact h.elim
  | _ :: _, [], _, _, _, _, _, h, _, _, _, _ => by cases ‹List (DataW H)› <;> exact h.elim
  | _ :: _, _ :: _, [], _, _, _, _, h, _, _, _, _ => h.elim
  | t :: ts, v :: vs, d :: ds, ps, W, W', hr, h, hb, hlt, sp, hsp => by
    obtain ⟨p, q, h1, h2, rfl⟩ := h
    have hr1 := hr t (by simp)
    refine ⟨p, q, WideElems.Trod_stays hl hr1.1 hr1.2 h1 (fun x hx => hb.same (hlt x (by simp [hx]))) (fun x hx => hsp x (by simp [hx])), ?_, rfl⟩
    exact TrodAll_below hl (fun t ht => hr t (by simp [ht])) h2 hb (fun x hx => hlt x (by simp [hx])) sp (fun x hx => hsp x (by simp [hx]))
end

end Go.Proofs.YtnpideapdjomgaaDoor
namespace Go.Proofs.YtnpideapdjomgaaDoor
open Go.RowKit Go.ChangeShapes Go.WideShapes Go.Deep

/-- A type's values read as r says; where no part weighs more than N, G says what is read. -/
def OpensR (P : Program) (t : TypeId) {α : Type} (r : Rep α) (G : Nat → α → Prop) : Prop :=
  ∀ {H : Type} (enc : TypeId × Value → H) (w : World) (base : Nat) (spare : Nat → Bool) (held : Bool) (fuel : Nat) (cs : List Value) (x : DataW H × List MemPlace),
    DataW.trod enc P w base spare held fuel t cs = some x → ∃ y, r.is w (under w.heap.size) cs y ∧ ∀ N, (x.1.weights P t).all (· ≤ N) = true → G N y

section
variable {P : Program}
theorem OpensR.str {t : TypeId} (ht : P.underlying t = some .string) : OpensR P t Rep.str (fun N s => s.size ≤ N) := by
  intro H enc w base spare held fuel cs x h
  obtain ⟨s, rfl, rfl, hs⟩ := DataW.trod_string ht h
  exact ⟨s, ⟨rfl, hs⟩, fun N hN => by simpa [DataW.weights] using hN⟩
theorem OpensR.of {t : TypeId} {α : Type} {r : Rep α} (h : Opens P t r) : OpensR P t r (fun _ _ => True) := by
  intro H enc w base spare held fuel cs x hx
  obtain ⟨y, hy⟩ := h enc w base spare held fuel cs x hx
  exact ⟨y, hy, fun _ _ => trivial⟩
theorem all_weights {H : Type} (e : TypeId) (D : Nat → DataW H) (N : Nat) : ∀ l : List Nat, (DataW.weightsAll P e (l.map D)).all (· ≤ N) = true → ∀ i ∈ l, ((D i).weights P e).all (· ≤ N) = true
  | [], _, i, hi => absurd hi (by simp)
  | a :: r, h, i, hi => by
    simp only [List.map_cons, DataW.weightsAll, List.all_append, Bool.and_eq_true] at h
    rcases List.mem_cons.1 hi with rfl | hi
    · exact h.1
    · exact all_weights e D N r h.2 i hi
theorem OpensR.slice {t e : TypeId} {α : Type} {r : Rep α} {G : Nat → α → Prop} (ht : P.underlying t = some (.slice e)) (hn : P.cellsOf e = r.n) (hp : 0 < r.n) (he : OpensR P e r G) : OpensR P t r.slice (fun N l => l.length * P.bytesOf e ≤ N ∧ ∀ x ∈ l, G N x) := by
  intro H enc w base spare held fuel cs x h
  rcases open_slice ht h with ⟨rfl, rfl⟩ | ⟨a, len, cap, m, n, D, Pl, rfl, hb, hl, hm, hmm, rfl, hi⟩
  · exact ⟨[], ⟨none, 0, rfl, SliceAt.nil _ _ _⟩, fun N _ => ⟨by simp, fun x hx => absurd hx (by simp)⟩⟩
  · have hlm : len ≤ m := by rw [hmm]; split <;> omega
    rcases Nat.eq_zero_or_pos len with rfl | hpos
    · exact ⟨[], ⟨some a, cap, by simp, by simp, hm, by simp, fun i hi => absurd hi (by simp)⟩, fun N _ => ⟨by simp, fun x hx => absurd hx (by simp)⟩⟩
    have hne : Nonempty α := by
      obtain ⟨cs', _, h2⟩ := hi 0 (by omega)
      obtain ⟨y, _⟩ := he enc w base spare held _ _ _ h2
      exact ⟨y⟩
    haveI : Inhabited α := ⟨Classical.choice hne⟩
    obtain ⟨f, hf⟩ := choose_lt (α := α) (n := len) (p := fun i y => (∀ N, ((D i).weights P e).all (· ≤ N) = true → G N y) ∧ ∃ cs', w.cells? base (a.add (i * P.cellsOf e)) (P.cellsOf e) = some cs' ∧ r.is w (under w.heap.size) cs' y) (fun i hi' => by
      obtain ⟨cs', h1, h2⟩ := hi i (by omega)
      obtain ⟨y, hy, hwy⟩ := he enc w base spare held _ _ _ h2
      exact ⟨y, hwy, cs', h1, hy⟩)
    refine ⟨(List.range len).map f, ⟨some a, cap, by simp, by simpa using hl, hm, by simp, fun i hi' => ?_⟩, ?_⟩
    · simp at hi'
      obtain ⟨_, cs', h1, hy⟩ := hf i hi'
      obtain ⟨_, hlen, hat⟩ := World.cells?_some h1
      have hn' : 0 < P.cellsOf e := by omega
      have h0 := hat 0 hn'
      have hspot : a.spot = none := by
        obtain ⟨_, cs0, hc0, _⟩ := hf 0 (by omega)
        obtain ⟨_, hlen0, hat0⟩ := World.cells?_some hc0
        have h00 := hat0 0 hn'
        rw [List.getElem?_eq_getElem (by omega)] at h00
        have e0 : (a.add (0 * P.cellsOf e)).add 0 = a := by simp [Addr.add]
        rw [e0] at h00
        unfold World.cell? at h00
        split at h00
        · split at h00
          · cases h00
          · rename_i hs; simpa using hs
        · cases h00
      obtain ⟨ab, ao, asp⟩ := a
      simp only at hspot
      subst hspot
      rw [add_plain] at hat h0
      refine ⟨ab, ao, cs', rfl, ?_, fun j u hj => ?_, by simpa using hy⟩
      · rw [add_plain, List.getElem?_eq_getElem (by omega)] at h0
        exact World.block_lt_of_cell? w _ h0
      · have hjl : j < P.cellsOf e := by
          have := (List.getElem?_eq_some_iff.1 hj).1
          omega
        have := hat j hjl
        rw [add_plain, hn] at this
        rw [this]; exact hj
    · intro N hN
      have hN' := hN
      simp only [DataW.weights, ht, List.all_cons, Bool.and_eq_true, decide_eq_true_eq, List.length_map, List.length_range] at hN'
      refine ⟨Nat.le_trans (Nat.mul_le_mul_right _ (by simp)) hN'.1, fun x hx => ?_⟩
      clear hN'
      obtain ⟨i, hi', rfl⟩ := List.mem_map.1 hx
      have hil : i < len := by simpa using hi'
      refine (hf i hil).1 N ?_
      simp only [DataW.weights, ht, List.all_cons, List.all_append, Bool.and_eq_true] at hN
      exact all_weights e D N _ hN.2.1 i hi'

theorem OpensR.sliceArg {H : Type} {enc : TypeId × Value → H} {t : TypeId} {α : Type} {r : Rep α} {G : Nat → List α → Prop} (ho : OpensR P t r.slice G) {w : World} {base : Nat} {spare : Nat → Bool} {held : Bool} {v : Value} {d : DataW H} {p : List MemPlace} (hv : ∀ cs, v ≠ .agg cs) (h : DataW.Trod enc P w base spare held t v d p) :
    ∃ A c l, v = .slice A l.length c ∧ SliceAt r w (under w.heap.size) A c l ∧ ∀ N, (d.weights P t).all (· ≤ N) = true → G N l := by
  obtain ⟨fuel, hf⟩ := h
  obtain ⟨l, ⟨A, c, e, hs⟩, hw⟩ := ho enc w base spare held fuel _ _ hf
  refine ⟨A, c, l, ?_, hs, hw⟩
  cases v <;> first | (simp [Value.cells] at e; done) | (simpa [Value.cells] using e) | (exact absurd rfl (hv _))
end
end Go.Proofs.YtnpideapdjomgaaDoor
