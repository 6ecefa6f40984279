/- A space of the program or of the document, or none: what each call answers and leaves. Condition: room. -/
import Derived.Test.YtejjmjbkpodolaaDoorSpaceX
import Derived.Test.YtejjmjbkpodolaaDoorSpaceRef2
import Derived.Test.YtejjmjbkpodolaaDoorNoSpace
namespace Go.Proofs.YtejjmjbkpodolaaDoor
open Go.RowKit Go.ChangeShapes Go.WideShapes Go.Deep

abbrev St := Option (Nat × List UInt8 × List UInt8)
/-- A space, its block in U, its rows outside; or none. -/
def Side (K : Nat → Value → Value → Array Value) (T : TypeId) (U : Blocks) (w : World) (v : Value) : St → Prop
  | none => v = .pointer none
  | some (m, p, h) => ∃ g, v = .pointer (some ⟨g, 0, none⟩) ∧ U g ∧ ∃ S, SpX K T w g S m p h ∧ ∀ b, S b → ¬ U b
def ptrB (v : Value) : Blocks := fun b => v = .pointer (some ⟨b, 0, none⟩)
theorem ptrB.is {g : Nat} {b : Nat} (h : ptrB (.pointer (some ⟨g, 0, none⟩)) b) : b = g := by
  simp only [ptrB, Value.pointer.injEq, Option.some.injEq, Addr.mk.injEq] at h
  exact h.1.symm
section
variable {K : Nat → Value → Value → Array Value} {T : TypeId} {U U' : Blocks} {w w' : World} {v : Value} {st : St}
theorem Side.only {F : Blocks} (s : Side K T U w v st) (ho : Only F w w') (hF : ∀ b, F b → ¬ ptrB v b ∧ (U b ∨ w.heap.size ≤ b)) : Side K T U w' v st := by
  match st, s with
  | none, s => exact s
  | some (m, p, h), s =>
    obtain ⟨g, rfl, hg, S, hs, hS⟩ := s
    exact ⟨g, rfl, hg, S, hs.only ho (fun h => (hF g h).1 rfl) (fun b hb hb' => by
      rcases (hF b hb').2 with h | h
      · exact hS b hb h
      · have := (hs.hS b hb).2; omega), hS⟩
theorem Side.far (s : Side K T U w v st) (hb : Below w.heap.size w w') : Side K T U w' v st := s.only (F := nob) (Only.of_below hb _) (fun _ h => h.elim)
theorem Side.ptr (s : Side K T U w v st) (b : Nat) (hb : ptrB v b) : U b := by
  match st, s with
  | none, s => rw [show v = _ from s] at hb; simp [ptrB] at hb
  | some (m, p, h), s =>
    obtain ⟨g, rfl, hg, -⟩ := s
    rw [hb.is]; exact hg
theorem Side.turn (s : Side K T U w v st) (h1 : ∀ b, U' b → U b ∨ w.heap.size ≤ b) (h2 : ∀ b, ptrB v b → U' b) : Side K T U' w v st := by
  match st, s with
  | none, s => exact s
  | some (m, p, h), s =>
    obtain ⟨g, rfl, hg, S, hs, hS⟩ := s
    exact ⟨g, rfl, h2 g rfl, S, hs, fun b hb hb' => (h1 b hb').elim (hS b hb) fun h => by have := (hs.hS b hb).2; omega⟩
theorem SpX.side {m g : Nat} {p h : List UInt8} (s : SpX K T w g nob m p h) (hg : U g) : Side K T U w (.pointer (some ⟨g, 0, none⟩)) (some (m, p, h)) := ⟨g, rfl, hg, nob, s, fun _ h => h.elim⟩
end
/-- A call at a space that may be none. -/
def liftS (f : Nat → List UInt8 → List UInt8 → Space.R) : St → Int × St
  | none => (1, none)
  | some (m, p, h) => ((f m p h).1, some (m, (f m p h).2))
def cutS : St → Bool × St
  | none => (false, none)
  | some (m, p, h) => (decide ((10 : UInt8) ∈ p), some (m, Space.cutR p, h))
def hasS : St → Bool
  | none => false
  | some (_, p, _) => decide ((10 : UInt8) ∈ p)
def firstS : St → List UInt8
  | none => []
  | some (_, p, _) => Space.firstR p
def patS : St → List UInt8
  | none => []
  | some (_, p, _) => p
def holdS : St → List UInt8
  | none => []
  | some (_, _, h) => h
/-- What a call that may turn a space leaves. -/
def TurnS (K : Nat → Value → Value → Array Value) (T : TypeId) (U : Blocks) (v : Value) (w : World) (R : Int × St) (e : Ending) (w' : World) : Prop :=
  ∃ q, e = .returned (.int .i64 q) ∧ Hid (q = R.1) ∧ Hid (Side K T U w' v R.2) ∧ Hid (Only (ptrB v) w w')
/-- What a call that gives bytes leaves. -/
def GiveS (w : World) (l : List UInt8) (e : Ending) (w' : World) : Prop :=
  ∃ A n c, e = .returned (.slice A n c) ∧ n ≤ c ∧ c ≤ 9223372036854775807 ∧ Hid (n = l.length) ∧ Hid (Own Rep.byte 5 w' w.heap.size nob (.slice A n c) l) ∧ Hid (Below w.heap.size w w')
def Give2S (w : World) (l : List UInt8) (b : Bool) (e : Ending) (w' : World) : Prop :=
  ∃ A n c, e = .returned (.tuple #[.slice A n c, .bool b]) ∧ n ≤ c ∧ c ≤ 9223372036854775807 ∧ Hid (n = l.length) ∧ Hid (Own Rep.byte 5 w' w.heap.size nob (.slice A n c) l) ∧ Hid (Below w.heap.size w w')
section
variable {K : Nat → Value → Value → Array Value} {T : TypeId} {U : Blocks} {w w' : World} {v : Value} {e : Ending}
theorem ptrB.of {g : Nat} : ∀ b, b = g → ptrB (.pointer (some ⟨g, 0, none⟩)) b := by rintro b rfl; rfl
theorem Turned.side {g m : Nat} {S : Blocks} {p h : List UInt8} (ht : Turned K T w g S m p h w') (hg : U g) (hS : ∀ b, S b → ¬ U b) (hB : ∀ b, U b → b < w.heap.size) : Side K T U w' (.pointer (some ⟨g, 0, none⟩)) (some (m, p, h)) := by
  obtain ⟨S', hs, hS', ho⟩ := ht
  exact ⟨g, rfl, hg, S', hs, fun b hb hu => (hS' b hb).elim (fun h => hS b h hu) fun h => by have := hB b hu; omega⟩
theorem DoPost.turnS {g m : Nat} {S : Blocks} {p h : List UInt8} {f : Nat → List UInt8 → List UInt8 → Space.R} (hd : DoPost K T w g S m (f m p h) e w') (hg : U g) (hS : ∀ b, S b → ¬ U b) (hB : ∀ b, U b → b < w.heap.size) : TurnS K T U (.pointer (some ⟨g, 0, none⟩)) w (liftS f (some (m, p, h))) e w' := by
  obtain ⟨he, ht⟩ := hd
  exact ⟨_, he, Lib.hid rfl, Lib.hid (Turned.side ht hg hS hB), Lib.hid (ht.choose_spec.2.2.mono ptrB.of)⟩
theorem GiveS.none_ (w : World) : GiveS w [] (.returned (.slice none 0 0)) w := ⟨_, _, _, rfl, Nat.le_refl _, by omega, Lib.hid rfl, Lib.hid (Own.nil _ _ _ _), Lib.hid (Below.refl _ _)⟩
theorem Give2S.none_ (w : World) : Give2S w [] false (.returned (.tuple #[.slice none 0 0, .bool false])) w := ⟨_, _, _, rfl, Nat.le_refl _, by omega, Lib.hid rfl, Lib.hid (Own.nil _ _ _ _), Lib.hid (Below.refl _ _)⟩
end
/-! ### The program's -/
abbrev SideP := Side kP 68
abbrev SideR := Side kR 63
section
variable (U : Blocks) (v : Value) (st : St) (w : World)
theorem sput (A : Option Addr) (n c : Nat) (b : List UInt8) (S2 : Blocks) (s : Hid (SideP U w v st)) (hB : Hid (∀ b, U b → b < w.heap.size)) (hb : Hid (SliceAt Rep.byte w S2 A c b)) (hn : Hid (n = b.length)) (hbig : n ≤ 1099511627776) :
    Calls Tryd.prog 16 #[v, .slice A n c] w (TurnS kP 68 U v w (liftS (fun m p h => Space.putR m p h b) st)) := by
  match st, s with
  | none, s =>
    obtain rfl : v = .pointer none := s.out
    exact (put_nn _ w _ (Lib.hid (nn_nil w))).mono fun e w' ⟨he, hw⟩ => by subst hw; exact ⟨1, he, Lib.hid rfl, Lib.hid rfl, Lib.hid (Only.refl _ _)⟩
  | some (m, p, h), s =>
    obtain ⟨g, rfl, hg, S, ⟨A1, n1, c1, A2, n2, c2, hs⟩, hS⟩ := s.out
    exact (put_any w g m n1 c1 n2 c2 S A1 A2 p h A n c b S2 (Lib.hid hs) hb hn (by omega)).mono fun _ _ hd => DoPost.turnS (f := fun m p h => Space.putR m p h b) hd hg hS hB.out
theorem sjoin (A : Option Addr) (n c : Nat) (b : List UInt8) (S2 : Blocks) (s : Hid (SideP U w v st)) (hB : Hid (∀ b, U b → b < w.heap.size)) (hb : Hid (SliceAt Rep.byte w S2 A c b)) (hS2 : Hid (∀ x, S2 x → x < w.heap.size)) (hn : Hid (n = b.length)) (hbig : n ≤ 1099511627776) :
    Calls Tryd.prog 21 #[v, .slice A n c] w (TurnS kP 68 U v w (liftS (fun m p h => Space.joinR m p h b) st)) := by
  match st, s with
  | none, s =>
    obtain rfl : v = .pointer none := s.out
    exact (join_nn _ w _ (Lib.hid (nn_nil w))).mono fun e w' ⟨he, hw⟩ => by subst hw; exact ⟨1, he, Lib.hid rfl, Lib.hid rfl, Lib.hid (Only.refl _ _)⟩
  | some (m, p, h), s =>
    obtain ⟨g, rfl, hg, S, ⟨A1, n1, c1, A2, n2, c2, hs⟩, hS⟩ := s.out
    exact (join_any w g m n1 c1 n2 c2 S A1 A2 p h A n c b S2 (Lib.hid hs) hb hS2 hn (by omega)).mono fun _ _ hd => DoPost.turnS (f := fun m p h => Space.joinR m p h b) hd hg hS hB.out
theorem sdo (x : UInt8) (s : Hid (SideP U w v st)) (hB : Hid (∀ b, U b → b < w.heap.size)) :
    Calls Tryd.prog 17 #[v, .int .u8 x.toNat] w (TurnS kP 68 U v w (liftS (fun m p h => Space.doR m p h x) st)) := by
  match st, s with
  | none, s =>
    obtain rfl : v = .pointer none := s.out
    exact (do_nn _ w _ (Lib.hid (nn_nil w))).mono fun e w' ⟨he, hw⟩ => by subst hw; exact ⟨1, he, Lib.hid rfl, Lib.hid rfl, Lib.hid (Only.refl _ _)⟩
  | some (m, p, h), s =>
    obtain ⟨g, rfl, hg, S, ⟨A1, n1, c1, A2, n2, c2, hs⟩, hS⟩ := s.out
    exact (do_any w g m n1 c1 n2 c2 S A1 A2 p h x (Lib.hid hs)).mono fun _ _ hd => DoPost.turnS (f := fun m p h => Space.doR m p h x) hd hg hS hB.out
theorem scut (s : Hid (SideP U w v st)) (hB : Hid (∀ b, U b → b < w.heap.size)) :
    Calls Tryd.prog 18 #[v] w fun e w' => e = .returned (.bool (cutS st).1) ∧ Hid (SideP U w' v (cutS st).2) ∧ Hid (Only (ptrB v) w w') := by
  match st, s with
  | none, s =>
    obtain rfl : v = .pointer none := s.out
    exact (cut_nn _ w (Lib.hid (nn_nil w))).mono fun e w' ⟨he, hw⟩ => by subst hw; exact ⟨he, Lib.hid rfl, Lib.hid (Only.refl _ _)⟩
  | some (m, p, h), s =>
    obtain ⟨g, rfl, hg, S, ⟨A1, n1, c1, A2, n2, c2, hs⟩, hS⟩ := s.out
    exact (cut_any w g m n1 c1 n2 c2 S A1 A2 p h (Lib.hid hs)).mono fun _ _ ⟨he, h1, h2⟩ => ⟨he, Lib.hid ⟨g, rfl, hg, S, h1.out, hS⟩, Lib.hid (h2.out.mono ptrB.of)⟩
theorem sfirst (s : Hid (SideP U w v st)) :
    Calls Tryd.prog 11 #[v] w (Give2S w (firstS st) (hasS st)) := by
  match st, s with
  | none, s =>
    obtain rfl : v = .pointer none := s.out
    exact (first_nn _ w (Lib.hid (nn_nil w))).mono fun e w' ⟨he, hw⟩ => by subst hw; subst he; exact Give2S.none_ _
  | some (m, p, h), s =>
    obtain ⟨g, rfl, hg, S, ⟨A1, n1, c1, A2, n2, c2, hs⟩, hS⟩ := s.out
    exact first_any w g m n1 c1 n2 c2 S A1 A2 p h (Lib.hid hs)
theorem spattern (s : Hid (SideP U w v st)) :
    Calls Tryd.prog 9 #[v] w (GiveS w (patS st)) := by
  match st, s with
  | none, s =>
    obtain rfl : v = .pointer none := s.out
    exact (pattern_nn _ w (Lib.hid (nn_nil w))).mono fun e w' ⟨he, hw⟩ => by subst hw; subst he; exact GiveS.none_ _
  | some (m, p, h), s =>
    obtain ⟨g, rfl, hg, S, hs, hS⟩ := s.out
    exact xpattern w g m p h (Lib.hid ⟨S, hs⟩)
theorem shold (s : Hid (SideP U w v st)) :
    Calls Tryd.prog 10 #[v] w (GiveS w (holdS st)) := by
  match st, s with
  | none, s =>
    obtain rfl : v = .pointer none := s.out
    exact (hold_nn _ w (Lib.hid (nn_nil w))).mono fun e w' ⟨he, hw⟩ => by subst hw; subst he; exact GiveS.none_ _
  | some (m, p, h), s =>
    obtain ⟨g, rfl, hg, S, hs, hS⟩ := s.out
    exact xhold w g m p h (Lib.hid ⟨S, hs⟩)
end
/-! ### The document's -/
section
variable (w : World)
theorem rnone_nil : Calls Tryd.prog 29 #[.pointer none] w fun e w' => e = .returned (.bool true) ∧ w = w' := by
  go_enter Tryd.func29, Tryd.ntmps29
  go_wp2
  go_ret
  exact ⟨rfl, rfl⟩
set_option maxRecDepth 100000 in
theorem rput_nil (v : Value) : Calls Tryd.prog 20 #[.pointer none, v] w fun e w' => e = .returned (.int .i64 1) ∧ w = w' := by
  go_enter Tryd.func20, Tryd.ntmps20
  go_wp2_with fail
  refine (rnone_nil w).mono ?_
  rintro e w1 ⟨rfl, rfl⟩
  go_wp2_with fail
  go_ret
  exact ⟨rfl, rfl⟩
set_option maxRecDepth 100000 in
theorem rjoin_nil (v : Value) : Calls Tryd.prog 22 #[.pointer none, v] w fun e w' => e = .returned (.int .i64 1) ∧ w = w' := by
  go_enter Tryd.func22, Tryd.ntmps22
  go_wp2_with fail
  refine (rnone_nil w).mono ?_
  rintro e w1 ⟨rfl, rfl⟩
  go_wp2_with fail
  go_ret
  exact ⟨rfl, rfl⟩
set_option maxRecDepth 100000 in
theorem rdo_nil (x : Int) : Calls Tryd.prog 23 #[.pointer none, .int .u8 x] w fun e w' => e = .returned (.int .i64 1) ∧ w = w' := by
  go_enter Tryd.func23, Tryd.ntmps23
  go_wp2_with fail
  refine (rnone_nil w).mono ?_
  rintro e w1 ⟨rfl, rfl⟩
  go_wp2_with fail
  go_ret
  exact ⟨rfl, rfl⟩
set_option maxRecDepth 100000 in
theorem rfirst_nil : Calls Tryd.prog 12 #[.pointer none] w fun e w' => e = .returned (.tuple #[.slice none 0 0, .bool false]) ∧ w = w' := by
  go_enter Tryd.func12, Tryd.ntmps12
  go_wp2_with fail
  refine (rnone_nil w).mono ?_
  rintro e w1 ⟨rfl, rfl⟩
  go_wp2_with fail
  go_ret2
  exact ⟨rfl, rfl⟩
set_option maxRecDepth 100000 in
theorem rcut_nil : Calls Tryd.prog 24 #[.pointer none] w fun e w' => e = .returned (.bool false) ∧ w = w' := by
  go_enter Tryd.func24, Tryd.ntmps24
  go_wp2_with fail
  refine (rnone_nil w).mono ?_
  rintro e w1 ⟨rfl, rfl⟩
  go_wp2_with fail
  go_ret
  exact ⟨rfl, rfl⟩
end
section
variable (U : Blocks) (v : Value) (st : St) (w : World)
theorem tput (A : Option Addr) (n c : Nat) (b : List UInt8) (S2 : Blocks) (s : Hid (SideR U w v st)) (hB : Hid (∀ b, U b → b < w.heap.size)) (hb : Hid (SliceAt Rep.byte w S2 A c b)) (hn : Hid (n = b.length)) (hbig : n ≤ 1099511627776) :
    Calls Tryd.prog 20 #[v, .slice A n c] w (TurnS kR 63 U v w (liftS (fun m p h => Space.putR m p h b) st)) := by
  match st, s with
  | none, s =>
    obtain rfl : v = .pointer none := s.out
    exact (rput_nil w _).mono fun e w' ⟨he, hw⟩ => by subst hw; exact ⟨1, he, Lib.hid rfl, Lib.hid rfl, Lib.hid (Only.refl _ _)⟩
  | some (m, p, h), s =>
    obtain ⟨g, rfl, hg, S, ⟨A1, n1, c1, A2, n2, c2, hs⟩, hS⟩ := s.out
    exact (rput_any w g m n1 c1 n2 c2 S A1 A2 p h A n c b S2 (Lib.hid hs) hb hn (by omega)).mono fun _ _ hd => DoPost.turnS (f := fun m p h => Space.putR m p h b) hd hg hS hB.out
theorem tjoin (A : Option Addr) (n c : Nat) (b : List UInt8) (S2 : Blocks) (s : Hid (SideR U w v st)) (hB : Hid (∀ b, U b → b < w.heap.size)) (hb : Hid (SliceAt Rep.byte w S2 A c b)) (hS2 : Hid (∀ x, S2 x → x < w.heap.size)) (hn : Hid (n = b.length)) (hbig : n ≤ 1099511627776) :
    Calls Tryd.prog 22 #[v, .slice A n c] w (TurnS kR 63 U v w (liftS (fun m p h => Space.joinR m p h b) st)) := by
  match st, s with
  | none, s =>
    obtain rfl : v = .pointer none := s.out
    exact (rjoin_nil w _).mono fun e w' ⟨he, hw⟩ => by subst hw; exact ⟨1, he, Lib.hid rfl, Lib.hid rfl, Lib.hid (Only.refl _ _)⟩
  | some (m, p, h), s =>
    obtain ⟨g, rfl, hg, S, ⟨A1, n1, c1, A2, n2, c2, hs⟩, hS⟩ := s.out
    exact (rjoin_any w g m n1 c1 n2 c2 S A1 A2 p h A n c b S2 (Lib.hid hs) hb hS2 hn (by omega)).mono fun _ _ hd => DoPost.turnS (f := fun m p h => Space.joinR m p h b) hd hg hS hB.out
theorem tdo (x : UInt8) (s : Hid (SideR U w v st)) (hB : Hid (∀ b, U b → b < w.heap.size)) :
    Calls Tryd.prog 23 #[v, .int .u8 x.toNat] w (TurnS kR 63 U v w (liftS (fun m p h => Space.doR m p h x) st)) := by
  match st, s with
  | none, s =>
    obtain rfl : v = .pointer none := s.out
    exact (rdo_nil w _).mono fun e w' ⟨he, hw⟩ => by subst hw; exact ⟨1, he, Lib.hid rfl, Lib.hid rfl, Lib.hid (Only.refl _ _)⟩
  | some (m, p, h), s =>
    obtain ⟨g, rfl, hg, S, ⟨A1, n1, c1, A2, n2, c2, hs⟩, hS⟩ := s.out
    exact (rdo_any w g m n1 c1 n2 c2 S A1 A2 p h x (Lib.hid hs)).mono fun _ _ hd => DoPost.turnS (f := fun m p h => Space.doR m p h x) hd hg hS hB.out
theorem tcut (s : Hid (SideR U w v st)) (hB : Hid (∀ b, U b → b < w.heap.size)) :
    Calls Tryd.prog 24 #[v] w fun e w' => e = .returned (.bool (cutS st).1) ∧ Hid (SideR U w' v (cutS st).2) ∧ Hid (Only (ptrB v) w w') := by
  match st, s with
  | none, s =>
    obtain rfl : v = .pointer none := s.out
    exact (rcut_nil w).mono fun e w' ⟨he, hw⟩ => by subst hw; exact ⟨he, Lib.hid rfl, Lib.hid (Only.refl _ _)⟩
  | some (m, p, h), s =>
    obtain ⟨g, rfl, hg, S, ⟨A1, n1, c1, A2, n2, c2, hs⟩, hS⟩ := s.out
    exact (rcut_any w g m n1 c1 n2 c2 S A1 A2 p h (Lib.hid hs)).mono fun _ _ ⟨he, h1⟩ => ⟨he, Lib.hid (h1.out.side hg hS hB.out), Lib.hid (h1.out.only.mono ptrB.of)⟩
theorem tfirst (s : Hid (SideR U w v st)) :
    Calls Tryd.prog 12 #[v] w (Give2S w (firstS st) (hasS st)) := by
  match st, s with
  | none, s =>
    obtain rfl : v = .pointer none := s.out
    exact (rfirst_nil w).mono fun e w' ⟨he, hw⟩ => by subst hw; subst he; exact Give2S.none_ _
  | some (m, p, h), s =>
    obtain ⟨g, rfl, hg, S, ⟨A1, n1, c1, A2, n2, c2, hs⟩, hS⟩ := s.out
    exact rfirst_any w g m n1 c1 n2 c2 S A1 A2 p h (Lib.hid hs)
end
end Go.Proofs.YtejjmjbkpodolaaDoor
