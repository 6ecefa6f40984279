/- The map of a space's deeds: made, looked into; Do walked whole. Condition: room. -/
import Derived.Test.YtejjmjbkpodolaaDoorSpace2
import Derived.MapKept
namespace Go.Proofs.YtejjmjbkpodolaaDoor
open Go.RowKit Go.ChangeShapes Go.WideShapes Go.Deep

section
variable {P : Program}
theorem run_insert_new (w : World) (t kt et : TypeId) (es : Array MapEntry) (c : Nat) (k : Int) (v : Value) (ht : P.underlying t = some (.map kt et)) (hk : P.underlying kt = some (.int .u8)) (hf : Instr.findNow (.int .u8) (.int .u8 k) es.toList 0 = some none) :
    (Instr.mapUpdate t (.map (some w.heap.size)) (.int .u8 k) v).run P (w.alloc (.map es c)) = .ok () (w.alloc (.map (es.push ⟨.int .u8 k, v, c⟩) (c + 1))) := by
  have hb : (w.alloc (.map es c)).heap[w.heap.size]? = some (.map es c) := heap_alloc_new w _
  have hkey : MapKept.IsKey (.int .u8) (.int .u8 k) := by simp [MapKept.IsKey]
  unfold Instr.mapUpdate
  simp only [Sem.run_bind, run_underlying ht, Result.andThen_ok, MapKept.run_getObj_map hb, MapKept.run_checkKey hk hkey _ 9999, MapKept.run_findKey hk hf, MapKept.run_setObj_map _ hb]
  congr 1
  show ({ w with heap := (w.heap.push (.map es c)).setIfInBounds w.heap.size (.map (es.push ⟨.int .u8 k, v, c⟩) (c + 1)) } : World) = { w with heap := w.heap.push (.map (es.push ⟨.int .u8 k, v, c⟩) (c + 1)) }
  congr 1
  apply Array.ext_getElem?
  intro i
  rw [Array.getElem?_setIfInBounds, Array.getElem?_push, Array.getElem?_push]
  by_cases h : w.heap.size = i
  · subst h; simp
  · rw [if_neg h, if_neg (Ne.symm h), if_neg (Ne.symm h)]
theorem run_look_in {w : World} {t kt et : TypeId} {b i : Nat} {es : Array MapEntry} {c : Nat} {k : Int} {v : Value} (ht : P.underlying t = some (.map kt et)) (hk : P.underlying kt = some (.int .u8)) (hb : w.heap[b]? = some (.map es c)) (hf : Instr.findNow (.int .u8) (.int .u8 k) es.toList 0 = some (some (i, v))) :
    (Instr.lookup t (.map (some b)) (.int .u8 k) true).run P w = .ok (.tuple #[v, .bool true]) w := by
  have hkey : MapKept.IsKey (.int .u8) (.int .u8 k) := by simp [MapKept.IsKey]
  unfold Instr.lookup
  simp only [Sem.run_bind, run_underlying ht, Result.andThen_ok, MapKept.run_getObj_map hb, MapKept.run_checkKey hk hkey _ 9999, MapKept.run_findKey hk hf, Sem.run_pure, if_true]
theorem run_look_out {w : World} {t kt et : TypeId} {b : Nat} {es : Array MapEntry} {c : Nat} {k : Int} {z : Value} (ht : P.underlying t = some (.map kt et)) (hk : P.underlying kt = some (.int .u8)) (hb : w.heap[b]? = some (.map es c)) (hf : Instr.findNow (.int .u8) (.int .u8 k) es.toList 0 = some none) (hz : (zeroValue et).run P w = .ok z w) :
    (Instr.lookup t (.map (some b)) (.int .u8 k) true).run P w = .ok (.tuple #[z, .bool false]) w := by
  have hkey : MapKept.IsKey (.int .u8) (.int .u8 k) := by simp [MapKept.IsKey]
  unfold Instr.lookup
  simp only [Sem.run_bind, run_underlying ht, Result.andThen_ok, MapKept.run_getObj_map hb, MapKept.run_checkKey hk hkey _ 9999, MapKept.run_findKey hk hf, Sem.run_pure, if_true, hz]
end
/-- The deeds' entries. -/
def deedL : Array MapEntry := #[⟨.int .u8 103, .func (.func 60) #[] #[], 0⟩, ⟨.int .u8 71, .func (.func 61) #[] #[], 1⟩, ⟨.int .u8 104, .func (.func 62) #[] #[], 2⟩, ⟨.int .u8 72, .func (.func 63) #[] #[], 3⟩, ⟨.int .u8 120, .func (.func 64) #[] #[], 4⟩]
set_option maxRecDepth 100000 in
theorem deeds_any (w : World) : Calls Tryd.prog 51 #[] w fun e w' => e = .returned (.map (some w.heap.size)) ∧ w'.heap[w.heap.size]? = some (.map deedL 5) ∧ Below w.heap.size w w' := by
  have hmm := @run_makeMap Tryd.prog
  have hin := fun es c k v => run_insert_new (P := Tryd.prog) w 76 5 _ es c k v Tryd.underlying76 Tryd.underlying5
  have i1 := hin #[] 0 103 (.func (.func 60) #[] #[]) rfl
  have i2 := hin _ 1 71 (.func (.func 61) #[] #[]) (show Instr.findNow (.int .u8) (.int .u8 71) (#[].push ⟨.int .u8 103, .func (.func 60) #[] #[], 0⟩ : Array MapEntry).toList 0 = some none from rfl)
  have i3 := hin _ 2 104 (.func (.func 62) #[] #[]) (show Instr.findNow (.int .u8) (.int .u8 104) ((#[].push ⟨.int .u8 103, .func (.func 60) #[] #[], 0⟩).push ⟨.int .u8 71, .func (.func 61) #[] #[], 1⟩ : Array MapEntry).toList 0 = some none from rfl)
  have i4 := hin _ 3 72 (.func (.func 63) #[] #[]) (show Instr.findNow (.int .u8) (.int .u8 72) (((#[].push ⟨.int .u8 103, .func (.func 60) #[] #[], 0⟩).push ⟨.int .u8 71, .func (.func 61) #[] #[], 1⟩).push ⟨.int .u8 104, .func (.func 62) #[] #[], 2⟩ : Array MapEntry).toList 0 = some none from rfl)
  have i5 := hin _ 4 120 (.func (.func 64) #[] #[]) (show Instr.findNow (.int .u8) (.int .u8 120) ((((#[].push ⟨.int .u8 103, .func (.func 60) #[] #[], 0⟩).push ⟨.int .u8 71, .func (.func 61) #[] #[], 1⟩).push ⟨.int .u8 104, .func (.func 62) #[] #[], 2⟩).push ⟨.int .u8 72, .func (.func 63) #[] #[], 3⟩ : Array MapEntry).toList 0 = some none from rfl)
  clear hin
  simp only [List.push_toArray, List.nil_append, List.cons_append] at i1 i2 i3 i4 i5
  go_enter Tryd.func51, Tryd.ntmps51
  go_wp2_with fail
  go_ret
  exact ⟨rfl, heap_alloc_new _ _, (Below.refl _ _).alloc (Nat.le_refl _) _⟩
section
variable (w : World) (g m n1 c1 n2 c2 : Nat) (S : Blocks) (A1 A2 : Option Addr) (p h : List UInt8)
set_option maxRecDepth 100000 in
theorem keepMore_any (s : Hid (Sp w g S m A1 n1 c1 A2 n2 c2 p h)) : Calls Tryd.prog 63 #[.pointer (some ⟨g, 0, none⟩)] w (DoPost kP 68 w g S m (Space.moreR m p h)) := by
  obtain ⟨h0, h1, h2, h3, f0, f1⟩ := s.out.cellsP
  have hnn := s.out.le
  have HD : Hid (Sp w.drew g S m A1 n1 c1 A2 n2 c2 p h) := Lib.hid (s.out.far ((Below.refl _ _).drew))
  by_cases hm : n2 + 1 + n1 ≤ m
  · have HR : Hid (Space.moreR m p h = (0, p, h ++ 10 :: p)) := Lib.hid (by rw [Space.moreR, if_pos (by rw [← s.out.hh, ← s.out.hp]; exact hm)])
    have HC := Lib.hid (behind_yes w.drew g m n1 c1 n2 c2 S A1 A2 p h A2 A1 n2 c2 n1 c1 h p S S HD (Lib.hid HD.out.th) (Lib.hid HD.out.tp) (Lib.hid s.out.hh) (Lib.hid s.out.hp) (Lib.hid fun x hx => (HD.out.hS x hx).2) (Lib.hid fun x hx => (HD.out.hS x hx).2) hm)
    go_enter Tryd.func63, Tryd.ntmps63
    go_wp2_with fail
    go_region_with (go_at_call 53; refine HC.out.mono ?_; rintro e w1 ⟨A', n', c', rfl, HO, HN, HB⟩)
    all_goals
      have s1 := HD.out.far HB.out
      have HS1 := Lib.hid s1
      obtain ⟨r0, r1, r2, r3, r4, r5⟩ := s1.cellsP
      clear s1 h0 h1 h2 h3 f0 f1
      go_wp2_with fail
      go_ret
      rw [HR.out]
      obtain ⟨hl', hs⟩ := HO.out.above
      have hgl := s.out.glt
      refine DoPost.from_ (w := w.drew) ((Below.refl _ _).drew) ⟨rfl, grows S w.heap.size w1.heap.size, ⟨_, _, _, _, _, _, HS1.out.setP1 (fun _ => .inl) (fun x hx => ?_) (hs.up fun _ => .inr) hl' (by rw [HN.out]; exact hm)⟩, fun x hx => hx.imp id And.left, only_setG HB.out⟩
      rcases hx with hx | hx
      · exact ⟨(s.out.hS x hx).1, Nat.lt_of_lt_of_le (s.out.hS x hx).2 HB.out.size⟩
      · exact ⟨by have := hx.1; omega, hx.2⟩
  · have HR : Hid (Space.moreR m p h = (62, p, h)) := Lib.hid (by rw [Space.moreR, if_neg (by rw [← s.out.hh, ← s.out.hp]; exact hm)])
    have HC := Lib.hid (behind_no w.drew g m n1 c1 n2 c2 S A1 A2 p h A2 A1 n2 c2 n1 c1 HD (by omega) (by omega) (by omega))
    go_enter Tryd.func63, Tryd.ntmps63
    go_wp2_with fail
    go_region_with (go_at_call 53; refine HC.out.mono ?_; rintro e w1 ⟨rfl, rfl⟩)
    all_goals
      go_wp2_with fail
      go_ret
      rw [HR.out]
      exact ⟨rfl, S, ⟨_, _, _, _, _, _, HD.out⟩, fun _ h => .inl h, (Only.refl _ _).drewN 1⟩
theorem SpB.swapP {w w' : World} {g m n1 c1 n2 c2 : Nat} {S : Blocks} {A1 A2 : Option Addr} {p h : List UInt8} (s : Sp w g S m A1 n1 c1 A2 n2 c2 p h)
    (hw : w' = (w.setCell ⟨g, 0, none⟩ (.slice A2 n2 c2)).setCell ⟨g, 1, none⟩ (.slice A1 n1 c1) ∨ w' = (w.setCell ⟨g, 1, none⟩ (.slice A1 n1 c1)).setCell ⟨g, 0, none⟩ (.slice A2 n2 c2)) : Sp w' g S m A2 n2 c2 A1 n1 c1 h p := by
  have hk : Same S w w' := by
    intro x hx
    rcases hw with rfl | rfl <;> exact (Below.heap_setCell _ _ _ x (s.hS x hx).1).trans (Below.heap_setCell _ _ _ x (s.hS x hx).1)
  refine s.put ?_ (s.th.keep (fun _ h => h) hk) (s.tp.keep (fun _ h => h) hk) s.hh s.hp s.lh s.lp fun x hx => ⟨(s.hS x hx).1, ?_⟩
  · rcases hw with rfl | rfl <;> simp [World.setCell, Array.getElem?_modify, s.blk]
  · rcases hw with rfl | rfl <;> simpa [World.setCell] using (s.hS x hx).2
set_option maxRecDepth 100000 in
theorem swap_any (s : Hid (Sp w g S m A1 n1 c1 A2 n2 c2 p h)) : Calls Tryd.prog 64 #[.pointer (some ⟨g, 0, none⟩)] w (DoPost kP 68 w g S m (0, h, p)) := by
  have HD : Hid (Sp w.drew g S m A1 n1 c1 A2 n2 c2 p h) := Lib.hid (s.out.far ((Below.refl _ _).drew))
  obtain ⟨h0, h1, h2, h3, f0, f1⟩ := s.out.cellsP
  go_enter Tryd.func64, Tryd.ntmps64
  go_wp2_with fail
  go_region
  all_goals
    go_wp2_with fail
    go_ret
    refine ⟨rfl, S, ⟨_, _, _, _, _, _, HD.out.swapP (by first | exact .inl rfl | exact .inr rfl)⟩, fun _ h => .inl h, ?_⟩
    exact Only.setCell (F := fun b => b = g) (Only.setCell (F := fun b => b = g) ((Only.refl _ _).drewN 1) (.inl rfl) _) (.inl rfl) _
end
end Go.Proofs.YtejjmjbkpodolaaDoor
