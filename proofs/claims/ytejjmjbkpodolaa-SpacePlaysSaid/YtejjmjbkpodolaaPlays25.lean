/- The walk of the law SpacePlays: every call, in every order, at two spaces in turns. Condition: room. -/
import Derived.Test.YtejjmjbkpodolaaDoes25
import Derived.Deep.RegionHeld3
import Derived.Deep.CutRange
namespace Go.Proofs.Ytejjmjbkpodolaa
open Go.RowKit Go.ChangeShapes Go.WideShapes Go.Deep

abbrev OpT := Int × Int × UInt8 × List UInt8
def Rep.op : Rep OpT := Rep.pair (Rep.int .i64) (Rep.pair (Rep.int .i64) (Rep.pair Rep.byte Rep.byte.slice fun p => p) fun p => p) fun p => p
theorem SliceAt.op {w : World} {S : Blocks} {A : Option Addr} {c : Nat} {l : List OpT} (h : SliceAt Rep.op w S A c l) {i : Nat} (hi : i < l.length) :
    ∃ g o A' c', A = some ⟨g, o, none⟩ ∧ S g ∧ w.cell? ⟨g, o + i * 4, none⟩ = some (.int .i64 l[i].1) ∧ w.cell? ⟨g, o + i * 4 + 1, none⟩ = some (.int .i64 l[i].2.1) ∧ w.cell? ⟨g, o + i * 4 + 2, none⟩ = some (.int .u8 l[i].2.2.1.toNat) ∧ w.cell? ⟨g, o + i * 4 + 3, none⟩ = some (.slice A' l[i].2.2.2.length c') ∧ SliceAt Rep.byte w S A' c' l[i].2.2.2 := by
  obtain ⟨g, o, cs, e, hb, hc, c1, c2, rfl, ⟨rfl, -⟩, c3, c4, rfl, ⟨rfl, -⟩, c5, c6, rfl, rfl, A', c', rfl, hs⟩ := h.at_ hi
  exact ⟨g, o, A', c', e, hb, hc 0 _ rfl, hc 1 _ rfl, hc 2 _ rfl, hc 3 _ rfl, hs⟩
theorem and1 (x : Int) : ∃ k : Nat, k < 2 ∧ bits BinOp.and IntKind.i64 x 1 = (k : Int) := by
  refine ⟨(BitVec.ofInt 64 x &&& BitVec.ofInt 64 1).toNat, ?_, ?_⟩
  · rw [BitVec.toNat_and]
    have : (BitVec.ofInt 64 1).toNat = 1 := by decide
    rw [this]
    have := Nat.and_le_right (n := (BitVec.ofInt 64 x).toNat) (m := 1)
    omega
  · have h : (BitVec.ofInt 64 x &&& BitVec.ofInt 64 1).toNat ≤ 1 := by
      rw [BitVec.toNat_and]
      have : (BitVec.ofInt 64 1).toNat = 1 := by decide
      rw [this]
      exact Nat.and_le_right
    have e : bits BinOp.and IntKind.i64 x 1 = IntKind.i64.wrap ((BitVec.ofInt 64 x &&& BitVec.ofInt 64 1).toNat : Int) := rfl
    rw [e]
    generalize hk : (BitVec.ofInt 64 x &&& BitVec.ofInt 64 1).toNat = k at h
    exact IntWalk.i64_in (k : Int) (by omega)
set_option maxRecDepth 100000 in
theorem beyond_any (A : Option Addr) (N c : Nat) (l : List OpT) (w : World) (S : Blocks) (hN : Hid (N = l.length)) (hl : Hid (SliceAt Rep.op w S A c l)) (hb : Hid (∀ o ∈ l, o.2.2.2.length ≤ 140737488355328)) :
    Calls Try.prog 15 #[.slice A N c] w fun e w' => ∃ r, e = .returned (.bool r) ∧ w = w' ∧ Hid (r = false → ∀ o ∈ l, o.2.2.2.length ≤ 67108864) := by
  have hNc : N ≤ c := by rw [hN.out]; exact hl.out.len
  have hcm := hl.out.max
  go_enter Try.func15, Try.ntmps15
  go_wp2_with fail
  go_loopg [3, 4] N (fun k nv iv wr => ∃ i T : Nat, i ≤ N ∧ nv = .int .i64 T ∧ iv = .int .i64 i ∧ k = N - i ∧ wr = w ∧ T ≤ 140737622573056 ∧ Hid (∀ j (hj : j < l.length), j < i → l[j].2.2.2.length ≤ T))
  case atStart => exact ⟨0, 0, Nat.zero_le _, rfl, rfl, rfl, rfl, by omega, Lib.hid fun j hj h => by omega⟩
  case round =>
    obtain ⟨i, T, hi, rfl, rfl, rfl, rfl, hT, HT⟩ := hrel
    rcases Nat.lt_or_ge i N with hlt | hge
    · rcases Nat.lt_or_ge 67108864 T with hbig | hsm
      · go_wp2_with fail
        go_ret
        exact ⟨_, rfl, rfl, Lib.hid fun h => by simp at h <;> omega⟩
      · have hil : i < l.length := by rw [← hN.out]; exact hlt
        obtain ⟨g, o, A', c', rfl, -, c0, c1, c2, c3, hs⟩ := hl.out.op hil
        have hbi := hb.out _ (List.getElem_mem hil)
        obtain ⟨n, hn⟩ : ∃ n, n = l[i].2.2.2.length := ⟨_, rfl⟩
        rw [← hn] at hbi c3
        have HNN := Lib.hid hn
        have hs1 := hs.len
        have hs2 := hs.max
        rw [← hn] at hs1
        clear c0 c1 c2 hs hn
        go_wp2_with fail
        go_roundg (N - (i + 1))
        case measure => omega
        case rel => exact ⟨i + 1, T + 1 + n, by omega, by go_num, by go_num, rfl, rfl, by omega, Lib.hid fun j hj h => by
          rcases Nat.lt_or_ge j i with h1 | h1
          · have := HT.out j hj h1; omega
          · obtain rfl : j = i := by omega
            have := HNN.out; omega⟩
    · obtain rfl : i = N := by omega
      go_wp2_with fail
      go_ret
      refine ⟨_, rfl, rfl, Lib.hid fun h o ho => ?_⟩
      obtain ⟨j, hj, rfl⟩ := List.getElem_of_mem ho
      have := HT.out j hj (by rw [hN.out]; exact hj)
      simp at h
      omega
/-! ### Two spaces of each kind, just made -/
def Fresh (K : Nat → Value → Value → Array Value) (T : TypeId) (w : World) (v : Value) : St → Prop
  | none => v = .pointer none
  | some (m, p, h) => p = [] ∧ h = [] ∧ ∃ g, v = .pointer (some ⟨g, 0, none⟩) ∧ SpX K T w g nob m [] []
section
variable {K : Nat → Value → Value → Array Value} {T : TypeId} {w w' : World} {v : Value} {st : St}
theorem Fresh.only {F : Blocks} (h : Fresh K T w v st) (ho : Only F w w') (hF : ∀ b, ptrB v b → ¬ F b) : Fresh K T w' v st := by
  match st, h with
  | none, h => exact h
  | some (m, p, q), h =>
    obtain ⟨rfl, rfl, g, rfl, hs⟩ := h
    exact ⟨rfl, rfl, g, rfl, hs.only ho (hF g rfl) fun _ h => h.elim⟩
theorem Fresh.side (h : Fresh K T w v st) : Side K T (under w.heap.size) w v st := by
  match st, h with
  | none, h => exact h
  | some (m, p, q), h =>
    obtain ⟨rfl, rfl, g, rfl, hs⟩ := h
    exact ⟨g, rfl, hs.glt, nob, hs, fun _ h => h.elim⟩
theorem Fresh.lt (h : Fresh K T w v st) {b : Nat} (hb : ptrB v b) : b < w.heap.size := h.side.ptr b hb
theorem Side.apart {U : Blocks} {u : Value} {st' : St} (s : SideP U w v st) (s' : SideR U w u st') : ∀ b, ptrB v b → ¬ ptrB u b := by
  intro b hb hb'
  match st, st', s, s' with
  | none, _, s, _ => rw [show v = _ from s] at hb; simp [ptrB] at hb
  | some (m, p, h), none, _, s' => rw [show u = _ from s'] at hb'; simp [ptrB] at hb'
  | some (m, p, h), some (m', p', h'), s, s' =>
    obtain ⟨g, rfl, hg, S, ⟨_, _, _, _, _, _, hs⟩, -⟩ := s
    obtain ⟨g', rfl, hg', S', ⟨_, _, _, _, _, _, hs'⟩, -⟩ := s'
    obtain rfl := hb.is
    obtain rfl := hb'.is
    have := hs.blk.symm.trans hs'.blk
    simp only [Option.some.injEq, Obj.cells.injEq] at this
    exact absurd this.2.1 (by decide)
end
/-- The two arrays, what is in them; since w1 nothing else has turned. -/
structure Made (gs gr : Nat) (w1 : World) (x y : Nat → Value) (st : Nat → St) (W : World) : Prop where
  bs : W.heap[gs]? = some (.cells #[x 0, x 1] 36)
  br : W.heap[gr]? = some (.cells #[y 0, y 1] 38)
  ne : gs ≠ gr
  ls : gs < w1.heap.size
  lr : gr < w1.heap.size
  fp : ∀ j, Fresh kP 48 W (x j) (st j)
  fr : ∀ j, Fresh kR 62 W (y j) (st j)
  lx : ∀ j b, ptrB (x j) b → w1.heap.size ≤ b
  ly : ∀ j b, ptrB (y j) b → w1.heap.size ≤ b
  dx : ∀ i j b, i ≠ j → ptrB (x i) b → ¬ ptrB (x j) b
  dy : ∀ i j b, i ≠ j → ptrB (y i) b → ¬ ptrB (y j) b
  o : Only (fun b => b = gs ∨ b = gr) w1 W
def upd {α : Type} (f : Nat → α) (i : Nat) (v : α) : Nat → α := fun q => if q = i then v else f q
section
variable {gs gr : Nat} {w1 W W' : World} {x y : Nat → Value} {st : Nat → St}
theorem Made.far (h : Made gs gr w1 x y st W) (hb : Below W.heap.size W W') : Made gs gr w1 x y st W' :=
  ⟨(hb.block _ (Nat.lt_of_lt_of_le h.ls h.o.size)).trans h.bs, (hb.block _ (Nat.lt_of_lt_of_le h.lr h.o.size)).trans h.br, h.ne, h.ls, h.lr, fun j => (h.fp j).only (F := nob) (Only.of_below hb _) fun _ _ h => h, fun j => (h.fr j).only (F := nob) (Only.of_below hb _) fun _ _ h => h, h.lx, h.ly, h.dx, h.dy, h.o.trans (F1 := nob) (Only.of_below hb _) fun _ h => h.elim⟩
theorem Made.step {i : Nat} (hi : i < 2) (h : Made gs gr w1 x y st W) {Wa W2 : World} {v u : Value} {s : St} (hb1 : Below W.heap.size W Wa) (hb2 : Below Wa.heap.size Wa W2) (hv : Fresh kP 48 W2 v s) (hu : Fresh kR 62 W2 u s) (hvn : ∀ b, ptrB v b → W.heap.size ≤ b) (hun : ∀ b, ptrB u b → W.heap.size ≤ b) :
    Made gs gr w1 (upd x i v) (upd y i u) (upd st i s) ((W2.setCell ⟨gs, i, none⟩ v).setCell ⟨gr, i, none⟩ u) := by
  have hb : Below W.heap.size W W2 := bfar hb1 hb2
  have h2 := h.far hb
  have hls := h.ls
  have hlr := h.lr
  have hsz := h.o.size
  have ho : Only (fun b => b = gs ∨ b = gr) W2 ((W2.setCell ⟨gs, i, none⟩ v).setCell ⟨gr, i, none⟩ u) := ((Only.refl _ W2).setCell (.inl (.inl rfl)) _).setCell (.inl (.inr rfl)) _
  refine ⟨?_, ?_, h.ne, h.ls, h.lr, fun j => ?_, fun j => ?_, fun j b hb => ?_, fun j b hb => ?_, fun a j b hne hb => ?_, fun a j b hne hb => ?_, h2.o.trans ho fun _ h => .inl h⟩
  · rw [Below.heap_setCell _ _ _ gs h.ne]
    have := h2.bs
    rcases (by omega : i = 0 ∨ i = 1) with rfl | rfl <;> simp [World.setCell, Array.getElem?_modify, this, upd]
  · have := (Below.heap_setCell W2 ⟨gs, i, none⟩ v gr (Ne.symm h.ne)).trans h2.br
    rcases (by omega : i = 0 ∨ i = 1) with rfl | rfl <;> simp [World.setCell, Array.getElem?_modify, upd] at this ⊢ <;> simp [this]
  · by_cases hj : j = i
    · subst hj; simp only [upd, if_true]
      exact hv.only ho fun b hb' h => by have := hvn b hb'; omega
    · simp only [upd, if_neg hj]
      exact (h2.fp j).only ho fun b hb' h' => by have := h.lx j b hb'; omega
  · by_cases hj : j = i
    · subst hj; simp only [upd, if_true]
      exact hu.only ho fun b hb' h => by have := hun b hb'; omega
    · simp only [upd, if_neg hj]
      exact (h2.fr j).only ho fun b hb' h' => by have := h.ly j b hb'; omega
  · by_cases hj : j = i
    · subst hj; simp only [upd, if_true] at hb; have := hvn b hb; omega
    · simp only [upd, if_neg hj] at hb; exact h.lx j b hb
  · by_cases hj : j = i
    · subst hj; simp only [upd, if_true] at hb; have := hun b hb; omega
    · simp only [upd, if_neg hj] at hb; exact h.ly j b hb
  · by_cases ha : a = i
    · have hj : j ≠ i := fun e => hne (ha.trans e.symm)
      simp only [upd, if_pos ha, if_neg hj] at hb ⊢
      intro h'; have := (h.fp j).lt h'; have := hvn b hb; omega
    · simp only [upd, if_neg ha] at hb
      by_cases hj : j = i
      · simp only [upd, if_pos hj]; intro h'; have := (h.fp a).lt hb; have := hvn b h'; omega
      · simp only [upd, if_neg hj]; exact h.dx a j b hne hb
  · by_cases ha : a = i
    · have hj : j ≠ i := fun e => hne (ha.trans e.symm)
      simp only [upd, if_pos ha, if_neg hj] at hb ⊢
      intro h'; have := (h.fr j).lt h'; have := hun b hb; omega
    · simp only [upd, if_neg ha] at hb
      by_cases hj : j = i
      · simp only [upd, if_pos hj]; intro h'; have := (h.fr a).lt hb; have := hun b h'; omega
      · simp only [upd, if_neg hj]; exact h.dy a j b hne hb
end
/-- Behind the script's beginning. -/
structure Play (x y : Nat → Value) (wB : World) (st : Nat → St) (W : World) : Prop where
  sp : ∀ j, j < 2 → SideP (under wB.heap.size) W (x j) (st j)
  sr : ∀ j, j < 2 → SideR (under wB.heap.size) W (y j) (st j)
  o : Only (fun b => ∃ j, j < 2 ∧ (ptrB (x j) b ∨ ptrB (y j) b)) wB W
theorem Play.far {x y : Nat → Value} {wB W W' : World} {st : Nat → St} (h : Play x y wB st W) (hb : Below W.heap.size W W') : Play x y wB st W' :=
  ⟨fun j hj => (h.sp j hj).far hb, fun j hj => (h.sr j hj).far hb, h.o.trans (F1 := nob) (Only.of_below hb _) fun _ h => h.elim⟩
theorem Play.step {x y : Nat → Value} {wB W W' : World} {st : Nat → St} (h : Play x y wB st W) {j : Nat} (hj : j < 2) {s : St} (hB : Both (under wB.heap.size) (x j) (y j) W s W')
    (dx : ∀ i j b, i ≠ j → ptrB (x i) b → ¬ ptrB (x j) b) (dy : ∀ i j b, i ≠ j → ptrB (y i) b → ¬ ptrB (y j) b) (dxy : ∀ i j b, i < 2 → j < 2 → ptrB (x i) b → ¬ ptrB (y j) b) : Play x y wB (upd st j s) W' := by
  refine ⟨fun i hi => ?_, fun i hi => ?_, h.o.trans hB.o fun b hb => .inl ⟨j, hj, hb⟩⟩
  · by_cases hij : i = j
    · subst hij; simp only [upd, if_true]; exact hB.p
    · simp only [upd, if_neg hij]
      refine (h.sp i hi).only hB.o fun b hb => ⟨fun h' => ?_, .inl ?_⟩
      · rcases hb with hb | hb
        · exact dx _ _ b hij h' hb
        · exact dxy _ _ b hi hj h' hb
      · rcases hb with hb | hb
        · exact (h.sp j hj).ptr b hb
        · exact (h.sr j hj).ptr b hb
  · by_cases hij : i = j
    · subst hij; simp only [upd, if_true]; exact hB.r
    · simp only [upd, if_neg hij]
      refine (h.sr i hi).only hB.o fun b hb => ⟨fun h' => ?_, .inl ?_⟩
      · rcases hb with hb | hb
        · exact dxy _ _ b hj hi hb h'
        · exact dy _ _ b hij h' hb
      · rcases hb with hb | hb
        · exact (h.sp j hj).ptr b hb
        · exact (h.sr j hj).ptr b hb
set_option maxRecDepth 100000 in
set_option maxHeartbeats 4000000 in
theorem spacePlays_any (w : World) (one two : Int) (A : Option Addr) (N c : Nat) (l : List OpT) (hN : Hid (N = l.length)) (hl : Hid (SliceAt Rep.op w (under w.heap.size) A c l)) (hb : Hid (∀ o ∈ l, o.2.2.2.length ≤ 140737488355328)) :
    Calls Try.prog 4 #[.int .i64 one, .int .i64 two, .slice A N c] w fun e w' => e = .returned (.bool true) ∧ Below w.heap.size w w' := by
  have hNc : N ≤ c := by rw [hN.out]; exact hl.out.len
  have hcm := hl.out.max
  go_enter Try.func4, Try.ntmps4
  go_wp2_with fail
  refine (works25_any w).mono ?_
  rintro e w1 ⟨rfl, hb1⟩
  have HB1 := Lib.hid hb1
  have HL1 := Lib.hid (hl.out.below hb1 (Nat.le_refl _))
  clear hb1
  go_wp2_with fail
  refine (beyond_any A N c l w1 _ hN HL1 hb).mono ?_
  rintro e w2 ⟨r, rfl, rfl, HR⟩
  cases r with
  | true =>
    go_wp2_with fail
    go_ret
    exact ⟨rfl, HB1.out⟩
  | false =>
    have HLEN := Lib.hid (HR.out rfl)
    clear HR
    obtain ⟨gs, hgs⟩ : ∃ gs, gs = w1.heap.size := ⟨_, rfl⟩
    obtain ⟨W3, hW3⟩ : ∃ W3, W3 = ((w1.alloc (.cells #[.pointer none, .pointer none] 36)).alloc (.cells #[.pointer none, .pointer none] 38)).alloc (.cells #[.int .i64 one, .int .i64 two] 39) := ⟨_, rfl⟩
    have hbs : W3.heap[gs]? = some (.cells #[.pointer none, .pointer none] 36) := by
      rw [hW3, hgs, Below.heap_alloc _ _ _ (by simp <;> omega), Below.heap_alloc _ _ _ (by simp), heap_alloc_new]
    have hbr : W3.heap[gs + 1]? = some (.cells #[.pointer none, .pointer none] 38) := by
      rw [hW3, hgs, Below.heap_alloc _ _ _ (by simp), show w1.heap.size + 1 = (w1.alloc (.cells #[.pointer none, .pointer none] 36)).heap.size by simp, heap_alloc_new]
    have hbm : W3.heap[gs + 1 + 1]? = some (.cells #[.int .i64 one, .int .i64 two] 39) := by
      rw [hW3, hgs, show w1.heap.size + 1 + 1 = ((w1.alloc (.cells #[.pointer none, .pointer none] 36)).alloc (.cells #[.pointer none, .pointer none] 38)).heap.size by simp, heap_alloc_new]
    have hs3 : W3.heap.size = gs + 3 := by rw [hW3, hgs]; simp
    have hb3 : Below w.heap.size w W3 := by
      have h := HB1.out
      rw [hW3]
      exact ((h.alloc h.size _).alloc (by have := h.size; simp; omega) _).alloc (by have := h.size; simp; omega) _
    have hgw : w.heap.size ≤ gs := by rw [hgs]; exact HB1.out.size
    have HW3 := Lib.hid hW3
    have HM3 : Hid (Made gs (gs + 1) W3 (fun _ => .pointer none) (fun _ => .pointer none) (fun _ => none) W3) := Lib.hid ⟨hbs, hbr, by omega, by omega, by omega, fun _ => rfl, fun _ => rfl, fun _ b h => by simp [ptrB] at h, fun _ b h => by simp [ptrB] at h, fun _ _ b _ h => by simp [ptrB] at h, fun _ _ b _ h => by simp [ptrB] at h, Only.refl _ _⟩
    have HBM := Lib.hid hbm
    have HB3 := Lib.hid hb3
    have HS3 := Lib.hid hs3
    have HGS := Lib.hid hgs
    clear hbs hbr hbm hs3 hb3 hW3 hgs
    go_wp2_with fail
    rw [← HW3.out, ← HGS.out]
    clear HW3 HGS HL1 HB1
    go_loopg [11] 2 (fun k iv wr => ∃ (i : Nat) (x y : Nat → Value) (st : Nat → St), i ≤ 2 ∧ iv = .int .i64 i ∧ k = 2 - i ∧ Hid (Made gs (gs + 1) W3 x y st wr))
    case atStart => exact ⟨0, _, _, _, by omega, rfl, rfl, HM3⟩
    case round =>
      obtain ⟨i, x, y, st, hi, rfl, rfl, HM⟩ := hrel
      have hc1 : ∀ j, j < 2 → wr.cell? ⟨gs, j, none⟩ = some (x j) := fun j hj => by
        rcases (by omega : j = 0 ∨ j = 1) with rfl | rfl
        · exact cell_of_row _ _ 0 _ _ (0, 0) HM.out.bs
        · exact cell_of_row _ _ 1 _ _ (0, 0) HM.out.bs
      have hc2 : ∀ j, j < 2 → wr.cell? ⟨gs + 1, j, none⟩ = some (y j) := fun j hj => by
        rcases (by omega : j = 0 ∨ j = 1) with rfl | rfl
        · exact cell_of_row _ _ 0 _ _ (0, 0) HM.out.br
        · exact cell_of_row _ _ 1 _ _ (0, 0) HM.out.br
      have hbm : wr.heap[gs + 1 + 1]? = some (.cells #[.int .i64 one, .int .i64 two] 39) := (HM.out.o.block _ (by have := HS3.out; omega) (by omega)).trans HBM.out
      have hlw : W3.heap.size ≤ wr.heap.size := HM.out.o.size
      have hgl : gs + 3 ≤ wr.heap.size := by have := HS3.out; omega
      rcases Nat.lt_or_ge i 2 with hlt | hge
      · obtain ⟨q, hq⟩ : ∃ q : Int, wr.cell? ⟨gs + 1 + 1, i, none⟩ = some (.int .i64 q) := by
          rcases (by omega : i = 0 ∨ i = 1) with rfl | rfl
          · exact ⟨one, cell_of_row _ _ 0 _ _ (0, 0) hbm⟩
          · exact ⟨two, cell_of_row _ _ 1 _ _ (0, 0) hbm⟩
        have HF : Hid (∀ W, Below wr.heap.size wr W → W.cell? ⟨gs + 1 + 1, i, none⟩ = some (.int .i64 q) ∧ W.cell? ⟨gs, i, none⟩ = some (x i) ∧ W.frozen? ⟨gs, i, none⟩ = false ∧ ∀ v, (W.setCell ⟨gs, i, none⟩ v).cell? ⟨gs + 1, i, none⟩ = some (y i) ∧ (W.setCell ⟨gs, i, none⟩ v).frozen? ⟨gs + 1, i, none⟩ = false) := Lib.hid fun W hW => by
          have b1 := (hW.block gs (by omega)).trans HM.out.bs
          have b2 := (hW.block (gs + 1) (by omega)).trans HM.out.br
          refine ⟨(hW.cell (p := ⟨gs + 1 + 1, i, none⟩) (by show gs + 1 + 1 < _; omega)).trans hq, (hW.cell (p := ⟨gs, i, none⟩) (by show gs < _; omega)).trans (hc1 i hlt), by simp [World.frozen?, b1], fun v => ⟨?_, ?_⟩⟩
          · have b3 := (Below.heap_setCell W ⟨gs, i, none⟩ v (gs + 1) (by simp)).trans b2
            rcases (by omega : i = 0 ∨ i = 1) with rfl | rfl
            · exact cell_of_row _ _ 0 _ _ (0, 0) b3
            · exact cell_of_row _ _ 1 _ _ (0, 0) b3
          · have b3 := (Below.heap_setCell W ⟨gs, i, none⟩ v (gs + 1) (by simp)).trans b2
            simp [World.frozen?, b3]
        clear hc1 hc2 hbm hq
        rcases Classical.em (0 ≤ q ∧ q ≤ 1048576) with hq | hq
        · obtain ⟨m, rfl⟩ := Int.eq_ofNat_of_zero_le hq.1
          have hm : m ≤ 1048576 := by omega
          obtain ⟨c0, -⟩ := HF.out wr (Below.refl _ _)
          go_wp2_with fail
          refine (new_ok wr m hm).mono ?_
          rintro e wa ⟨g, rfl, hg, HX, HBa⟩
          obtain ⟨c0, -⟩ := HF.out wa HBa.out
          go_wp2_with fail
          refine (rnew_ok wa m hm).mono ?_
          rintro e wb ⟨g', rfl, hg', HY, HBb⟩
          obtain ⟨-, c1, c2, c3⟩ := HF.out wb (bfar HBa.out HBb.out)
          have c4 := fun v => (c3 v).1
          have c5 := fun v => (c3 v).2
          clear c3 c0
          go_wp2_with fail
          go_roundg (2 - (i + 1))
          case measure => omega
          case rel => exact ⟨i + 1, _, _, _, by omega, by go_num, rfl, Lib.hid (Made.step (s := some (m, [], [])) hlt HM.out HBa.out HBb.out ⟨rfl, rfl, g, rfl, HX.out.far HBb.out⟩ ⟨rfl, rfl, g', rfl, HY.out⟩ (fun b hb => by rw [hb.is]; exact hg) (fun b hb => by rw [hb.is]; exact Nat.le_trans HBa.out.size hg'))⟩
        · have hq' : q < 0 ∨ 1048576 < q := by omega
          obtain ⟨c0, c1, c2, c3⟩ := HF.out wr (Below.refl _ _)
          have c4 := fun v => (c3 v).1
          have c5 := fun v => (c3 v).2
          clear c3 hq
          go_wp2_with fail
          refine (new_no wr q hq').mono ?_
          rintro e wa ⟨rfl, rfl⟩
          go_wp2_with fail
          refine (rnew_no wr q hq').mono ?_
          rintro e wa ⟨rfl, rfl⟩
          go_wp2_with fail
          go_roundg (2 - (i + 1))
          case measure => omega
          case rel => exact ⟨i + 1, _, _, _, by omega, by go_num, rfl, Lib.hid (Made.step (s := none) hlt HM.out (Below.refl _ _) (Below.refl _ _) rfl rfl (fun b hb => by simp [ptrB] at hb) (fun b hb => by simp [ptrB] at hb))⟩
      · obtain rfl : i = 2 := by omega
        obtain ⟨wB, rfl⟩ : ∃ W : World, W = wr := ⟨_, rfl⟩
        have HDX := Lib.hid HM.out.dx
        have HDY := Lib.hid HM.out.dy
        have hlx := HM.out.lx
        have hly := HM.out.ly
        have HDXY : Hid (∀ i j b, i < 2 → j < 2 → ptrB (x i) b → ¬ ptrB (y j) b) := Lib.hid fun i j b _ _ => (HM.out.fp i).side.apart (HM.out.fr j).side b
        have hP0 : Play x y wB st wB := ⟨fun j _ => (HM.out.fp j).side, fun j _ => (HM.out.fr j).side, Only.refl _ _⟩
        have hbB : Below w.heap.size w wB := by
          have h1 := HB3.out
          exact ⟨HM.out.o.os.trans h1.os, HM.out.o.tape.trans h1.tape, HM.out.o.output.trans h1.output, Nat.le_trans h1.size HM.out.o.size, fun b hb => (HM.out.o.block b (Nat.lt_of_lt_of_le hb h1.size) (by rintro (h | h) <;> omega)).trans (h1.block b hb)⟩
        have HBelow : Hid (∀ st' W, Play x y wB st' W → Below w.heap.size w W) := Lib.hid fun st' W hP => ⟨hP.o.os.trans hbB.os, hP.o.tape.trans hbB.tape, hP.o.output.trans hbB.output, Nat.le_trans hbB.size hP.o.size, fun b hb => (hP.o.block b (Nat.lt_of_lt_of_le hb hbB.size) (by
          rintro ⟨j, hj, h | h⟩
          · have := hlx j b h; have := HS3.out; omega
          · have := hly j b h; have := HS3.out; omega)).trans (hbB.block b hb)⟩
        have HArr : Hid (∀ st' W, Play x y wB st' W → ∀ j, j < 2 → W.cell? ⟨gs, j, none⟩ = some (x j) ∧ W.cell? ⟨gs + 1, j, none⟩ = some (y j)) := Lib.hid fun st' W hP j hj => by
          have e1 : ¬ ∃ j, j < 2 ∧ (ptrB (x j) gs ∨ ptrB (y j) gs) := by
            rintro ⟨j, hj, h | h⟩
            · have := hlx j _ h; have := HS3.out; omega
            · have := hly j _ h; have := HS3.out; omega
          have e2 : ¬ ∃ j, j < 2 ∧ (ptrB (x j) (gs + 1) ∨ ptrB (y j) (gs + 1)) := by
            rintro ⟨j, hj, h | h⟩
            · have := hlx j _ h; have := HS3.out; omega
            · have := hly j _ h; have := HS3.out; omega
          exact ⟨(World.cell?_of_block (hP.o.block gs (by omega) e1)).trans (hc1 j hj), (World.cell?_of_block (hP.o.block (gs + 1) (by omega) e2)).trans (hc2 j hj)⟩
        have HPX : Hid (∀ j b, (ptrB (x j) b ∨ ptrB (y j) b) → w.heap.size ≤ b) := Lib.hid fun j b h => by
          rcases h with h | h
          · have := hlx j _ h; have := HS3.out; omega
          · have := hly j _ h; have := HS3.out; omega
        have HP0 := Lib.hid hP0
        have HSW : w.heap.size ≤ wB.heap.size := hbB.size
        clear hc1 hc2 hbm hlw hgl hP0 hbB hlx hly HM HBM HB3 HS3 HM3
        go_wp2_with fail
        go_loopg [7, 16] N (fun k ov iv wr => ∃ (i : Nat) (st' : Nat → St), i ≤ N ∧ ov = .bool true ∧ iv = .int .i64 i ∧ k = N - i ∧ Hid (Play x y wB st' wr))
        case atStart => exact ⟨0, st, Nat.zero_le _, rfl, rfl, rfl, HP0⟩
        case round =>
          obtain ⟨i, st', hi, rfl, rfl, rfl, HP⟩ := hrel
          rcases Nat.lt_or_ge i N with hlt | hge
          · have hil : i < l.length := by rw [← hN.out]; exact hlt
            obtain ⟨g, o, A', c', rfl, hgw, c0, c1, c2, c3, hs⟩ := hl.out.op hil
            have hbi := HLEN.out _ (List.getElem_mem hil)
            obtain ⟨⟨kd, on, nm, b⟩, hop⟩ : ∃ p, p = l[i] := ⟨_, rfl⟩
            rw [← hop] at hbi c0 c1 c2 c3 hs
            simp only at hbi c0 c1 c2 c3 hs
            obtain ⟨n, hn⟩ : ∃ n, n = b.length := ⟨_, rfl⟩
            rw [← hn] at hbi c3
            have HN := Lib.hid hn
            obtain ⟨j, hj, hjj⟩ := and1 on
            have HOC : Hid (∀ W, Below w.heap.size w W → W.cell? ⟨g, o + i * 4, none⟩ = some (.int .i64 kd) ∧ W.cell? ⟨g, o + i * 4 + 1, none⟩ = some (.int .i64 on) ∧ W.cell? ⟨g, o + i * 4 + 2, none⟩ = some (.int .u8 nm.toNat) ∧ W.cell? ⟨g, o + i * 4 + 3, none⟩ = some (.slice A' n c')) := Lib.hid fun W hW =>
              ⟨(hW.cell (p := ⟨g, _, none⟩) hgw).trans c0, (hW.cell (p := ⟨g, _, none⟩) hgw).trans c1, (hW.cell (p := ⟨g, _, none⟩) hgw).trans c2, (hW.cell (p := ⟨g, _, none⟩) hgw).trans c3⟩
            have HSL := Lib.hid hs
            clear c0 c1 c2 c3 hs hn hop
            have HCall : Hid (∀ W, (∃ s, Play x y wB s W) → Calls Try.prog 17 #[x j, y j, .agg #[.int .i64 kd, .int .i64 on, .int .u8 nm.toNat, .slice A' n c']] W fun e w' => e = .returned (.bool true) ∧ ∃ s, Play x y wB s w') := Lib.hid fun W ⟨s, hP⟩ =>
              (does_any (under wB.heap.size) (x j) (y j) (s j) kd on nm A' n c' b (under w.heap.size) W (Lib.hid (hP.sp j hj)) (Lib.hid (hP.sr j hj)) (Lib.hid fun b => HDXY.out j j b hj hj) (Lib.hid (HSL.out.keep (fun _ h => h) (Same.of_below (HBelow.out _ _ hP) fun _ h => h))) (Lib.hid fun b hb => ⟨Nat.lt_of_lt_of_le hb (HBelow.out _ _ hP).size, fun h => by have := HPX.out j b (.inl h); simp only [under] at hb; omega, fun h => by have := HPX.out j b (.inr h); simp only [under] at hb; omega⟩) HN hbi (Lib.hid fun b hb => Nat.lt_of_lt_of_le hb hP.o.size)).mono
                fun e w' ⟨he, s', hB⟩ => ⟨he, _, hP.step hj hB.out HDX.out HDY.out HDXY.out⟩
            have HK : Hid (∀ W, (∃ s, Play x y wB s W) → (∃ s, Play x y wB s W) ∧ W.cell? ⟨gs, j, none⟩ = some (x j) ∧ W.cell? ⟨gs + 1, j, none⟩ = some (y j) ∧ W.cell? ⟨g, o + i * 4, none⟩ = some (.int .i64 kd) ∧ W.cell? ⟨g, o + i * 4 + 1, none⟩ = some (.int .i64 on) ∧ W.cell? ⟨g, o + i * 4 + 2, none⟩ = some (.int .u8 nm.toNat) ∧ W.cell? ⟨g, o + i * 4 + 3, none⟩ = some (.slice A' n c')) := Lib.hid fun W ⟨s, hP⟩ =>
              ⟨⟨s, hP⟩, (HArr.out _ _ hP j hj).1, (HArr.out _ _ hP j hj).2, HOC.out W (HBelow.out _ _ hP)⟩
            have HK0 := Lib.hid (HK.out wr.drew ⟨_, HP.out.far ((Below.refl _ _).drew)⟩)
            obtain ⟨c0, c1, c2, c3⟩ := HOC.out wr (HBelow.out _ _ HP.out)
            go_upto_region 20 with fail
            go_cut [7] from 60 to 114 (fun v7 wc => v7 = .bool true ∧ ∃ s, Play x y wB s wc)
            case first =>
              clear c0 c1 c2 c3
              have hj1 : (j : Int) < 2 := by omega
              have hj0 : (0 : Int) ≤ (j : Int) := by omega
              have hi1 : (i : Int) < (N : Int) := by omega
              have hi0 : (0 : Int) ≤ (i : Int) := by omega
              go_region_held3 (fun W => (∃ s, Play x y wB s W) ∧ W.cell? ⟨gs, j, none⟩ = some (x j) ∧ W.cell? ⟨gs + 1, j, none⟩ = some (y j) ∧ W.cell? ⟨g, o + i * 4, none⟩ = some (.int .i64 kd) ∧ W.cell? ⟨g, o + i * 4 + 1, none⟩ = some (.int .i64 on) ∧ W.cell? ⟨g, o + i * 4 + 2, none⟩ = some (.int .u8 nm.toNat) ∧ W.cell? ⟨g, o + i * 4 + 3, none⟩ = some (.slice A' n c')) (first | exact HK0.out | exact HK.out _ (by assumption)) (first | (go_at_call 17; refine (HCall.out _ (And.left (by assumption))).mono ?_; rintro e w5 ⟨rfl, hp5⟩))
              all_goals go_wp2_with fail
              all_goals go_meet
              all_goals exact ⟨rfl, And.left (by assumption)⟩
            case rest =>
              obtain ⟨rfl, st2, hP2⟩ := hcut
              obtain ⟨wC, rfl⟩ : ∃ W : World, W = wc := ⟨_, rfl⟩
              have HP2 := Lib.hid hP2
              clear hP2 HK0 HK HCall HSL HOC HP
              go_wp2_with fail
              go_loopg [7, 18] 2 (fun k ov iv wr => ∃ j : Nat, j ≤ 2 ∧ ov = .bool true ∧ iv = .int .i64 j ∧ k = 2 - j ∧ Hid (Play x y wB st2 wr))
              case atStart => exact ⟨0, by omega, rfl, rfl, rfl, HP2⟩
              case round =>
                obtain ⟨q, hq, rfl, rfl, rfl, HP⟩ := hrel
                rcases Nat.lt_or_ge q 2 with hlq | hge
                · obtain ⟨a1, a2⟩ := HArr.out _ _ HP.out q hlq
                  obtain ⟨lp, hlp⟩ : ∃ l, l = patS (st2 q) := ⟨_, rfl⟩
                  obtain ⟨lh, hlh⟩ : ∃ l, l = holdS (st2 q) := ⟨_, rfl⟩
                  have HX := Lib.hid (HP.out.sp q hlq)
                  have HY := Lib.hid (HP.out.sr q hlq)
                  have HPS : Hid (∀ W, Below wr.heap.size wr W → Calls Try.prog 12 #[x q] W (GiveS W lp)) := Lib.hid fun W hW => by rw [hlp]; exact spattern _ _ _ W (Lib.hid (HX.out.far hW))
                  have HPR : Hid (∀ W, Below wr.heap.size wr W → Calls Try.prog 18 #[y q] W (GiveS W lp)) := Lib.hid fun W hW => by rw [hlp]; exact tpattern _ _ _ W (Lib.hid (HY.out.far hW))
                  have HHS : Hid (∀ W, Below wr.heap.size wr W → Calls Try.prog 13 #[x q] W (GiveS W lh)) := Lib.hid fun W hW => by rw [hlh]; exact shold _ _ _ W (Lib.hid (HX.out.far hW))
                  have HHR : Hid (∀ W, Below wr.heap.size wr W → Calls Try.prog 19 #[y q] W (GiveS W lh)) := Lib.hid fun W hW => by rw [hlh]; exact thold _ _ _ W (Lib.hid (HY.out.far hW))
                  have HK : Hid (∀ wa wb, (Below wr.heap.size wr wa ∧ wa.cell? ⟨gs, q, none⟩ = some (x q) ∧ wa.cell? ⟨gs + 1, q, none⟩ = some (y q)) → Below wa.heap.size wa wb → Below wr.heap.size wr wb ∧ wb.cell? ⟨gs, q, none⟩ = some (x q) ∧ wb.cell? ⟨gs + 1, q, none⟩ = some (y q)) := Lib.hid fun wa wb ⟨h1, h2, h3⟩ hb => ⟨bfar h1 hb, (hb.cell (World.block_lt_of_cell? wa _ h2)).trans h2, (hb.cell (World.block_lt_of_cell? wa _ h3)).trans h3⟩
                  have HK0 : Hid (Below wr.heap.size wr wr.drew ∧ wr.drew.cell? ⟨gs, q, none⟩ = some (x q) ∧ wr.drew.cell? ⟨gs + 1, q, none⟩ = some (y q)) := Lib.hid ⟨(Below.refl _ _).drew, a1, a2⟩
                  have hq1 : (q : Int) < 2 := by omega
                  have hq0 : (0 : Int) ≤ (q : Int) := by omega
                  clear a1 a2 hlp hlh HX HY
                  go_upto_region 24 with fail
                  go_region_held3 (fun W => Below wr.heap.size wr W ∧ W.cell? ⟨gs, q, none⟩ = some (x q) ∧ W.cell? ⟨gs + 1, q, none⟩ = some (y q)) (first | exact HK0.out | exact HK.out _ _ (by assumption) (by assumption)) (first
                    | (go_at_call 12; refine (HPS.out _ (And.left (by assumption))).mono ?_; rintro e wp ⟨Ap, np, cp, rfl, kp1, kp2, HNp, HOp, HBp⟩; have hbp := HBp.out)
                    | (go_at_call 18; refine (HPR.out _ (And.left (by assumption))).mono ?_; rintro e wq ⟨Aq, nq, cq, rfl, kq1, kq2, HNq, HOq, HBq⟩; have hbq := HBq.out)
                    | (go_at_call 13; refine (HHS.out _ (And.left (by assumption))).mono ?_; rintro e wh ⟨Ah, nh, ch, rfl, kh1, kh2, HNh, HOh, HBh⟩; have hbh := HBh.out)
                    | (go_at_call 19; refine (HHR.out _ (And.left (by assumption))).mono ?_; rintro e wj ⟨Aj, nj, cj, rfl, kj1, kj2, HNj, HOj, HBj⟩; have hbj := HBj.out)
                    | (go_at_call 11; refine (eqB' Ah Aj nh nj ch cj lh lh true wj _ _ HNh HNj (Lib.hid (by simp)) (Lib.hid (HOh.out.far hbj).above.2) (Lib.hid HOj.out.above.2)).mono ?_; rintro e wf ⟨rfl, hbf⟩)
                    | (go_at_call 11; refine (eqB' Ah Aj nh nj ch cj lh lh true wh _ _ HNh HNj (Lib.hid (by simp)) (Lib.hid HOh.out.above.2) (Lib.hid (HOj.out.far hbh).above.2)).mono ?_; rintro e wf ⟨rfl, hbf⟩)
                    | (go_at_call 11; refine (eqB' Ap Aq np nq cp cq lp lp true wq _ _ HNp HNq (Lib.hid (by simp)) (Lib.hid (HOp.out.far hbq).above.2) (Lib.hid HOq.out.above.2)).mono ?_; rintro e we ⟨rfl, hbe⟩)
                    | (go_at_call 11; refine (eqB' Ap Aq np nq cp cq lp lp true wp _ _ HNp HNq (Lib.hid (by simp)) (Lib.hid HOp.out.above.2) (Lib.hid (HOq.out.far hbp).above.2)).mono ?_; rintro e we ⟨rfl, hbe⟩))
                  all_goals go_wp2_with fail
                  all_goals go_roundg (2 - (q + 1))
                  all_goals first | omega | exact ⟨q + 1, by omega, rfl, by go_num, rfl, Lib.hid (HP.out.far (And.left (by assumption)))⟩
                · obtain rfl : q = 2 := by omega
                  go_wp2_with fail
                  go_roundg (N - (i + 1))
                  case measure => omega
                  case rel => exact ⟨i + 1, st2, by omega, rfl, by go_num, rfl, HP⟩
          · obtain rfl : i = N := by omega
            go_wp2_with fail
            go_ret
            exact ⟨rfl, HBelow.out _ _ HP.out⟩
end Go.Proofs.Ytejjmjbkpodolaa
