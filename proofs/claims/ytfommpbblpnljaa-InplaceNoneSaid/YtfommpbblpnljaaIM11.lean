/- Texts that lead to the claim, one behind the other: A change comes about in a folder: the walk. Condition: room. -/
import Derived.Test.YtfommpbblpnljaaIM0
import Derived.Test.YtfommpbblpnljaaIM6
import Derived.Test.YtfommpbblpnljaaProg
import Derived.WalkKit
import Derived.WalkSpells
import Derived.WalkMore
import Derived.Test.YtfommpbblpnljaaIM10
namespace Go.Proofs.Ytfommpbblpnljaa
open Go.RowKit Go.ChangeShapes Go.WideShapes Go.Deep

abbrev Fol := Disk.Folder Try.prog 9
theorem only_turned {w w' : World} {b : Nat} (h : w.mapTurned w' b) : Only (fun x => x = b) w w' := Only.of_grown h.grown _ fun x hx => by simpa using hx
theorem only_turnedA {w w1 w' : World} {b : Nat} (h0 : Below w.heap.size w w1) (h : w1.mapTurned w' b) : Only (fun x => x = b) w w' := (Only.of_below h0 _).trans (only_turned h) fun _ h => .inl h
theorem after_turn {w w2 : World} {b : Nat} {cs : Array Value} {e : TypeId} (h : (w.alloc (.cells cs e)).mapTurned w2 b) (hb : b < w.heap.size) {i : Nat} {v : Value} (hv : cs[i]? = some v) : w2.cell? ⟨w.heap.size, i, none⟩ = some v :=
  (World.cell?_of_block (a := ⟨w.heap.size, i, none⟩) ((only_turned h).block w.heap.size (by simp) (by omega))).trans ((cell_of_row _ _ i cs e (0, 0) (heap_alloc_new w _)).trans hv)
set_option maxRecDepth 100000 in
set_option maxHeartbeats 1000000 in
theorem goes_to (t : ByteArray) (i b n : Nat) (l : Disk.Fo) (loc : Nat → Nat) (w : World) (h : Hid (Fol w b n l loc)) (hr : Hid (Disk.Rising l)) (hn : n < 4611686018427387904) (ht : t.size ≤ maxLen) (he : t.toList.isEmpty = false) :
    Calls Try.prog 58 #[.agg #[.string ⟨#[]⟩, .string t, .pointer (some ⟨loc i, 0, none⟩)], .map (some b)] w fun e w' => e = .returned (.tuple #[]) ∧ Fol w' b (n + 1) (Disk.put l t.data.toList i) loc ∧ Only (fun x => x = b) w w' := by
  go_enter Try.func58, Try.ntmps58
  go_wp2_with (at_mapUpdate; refine Disk.wpList_put_folder rfl (.tmp 13) (.tmp 15) (.tmp 17) 23 rfl 9 84 Try.underlying9 Try.underlying23 b n l hr.out loc rfl (h.out.same (RowKit.Below.heap_alloc w _ b h.out.lt)) (by simp only [maxLen]; omega) t ht i rfl rfl ?_; intro w2 hf hturn)
  go_end0
  exact ⟨rfl, hf, only_turnedA (Below.alloc (Below.refl _ _) (Nat.le_refl _) _) hturn⟩
set_option maxRecDepth 100000 in
set_option maxHeartbeats 1000000 in
theorem goes_from (t : ByteArray) (b n : Nat) (p : Value) (l : Disk.Fo) (loc : Nat → Nat) (w : World) (h : Hid (Fol w b n l loc)) (hr : Hid (Disk.Rising l)) (hp : p = .pointer none) (ht : t.size ≤ maxLen) (he : t.toList.isEmpty = false) :
    Calls Try.prog 58 #[.agg #[.string t, .string ⟨#[]⟩, p], .map (some b)] w fun e w' => e = .returned (.tuple #[]) ∧ Fol w' b n (Disk.drop l t.data.toList) loc ∧ Only (fun x => x = b) w w' := by
  subst hp
  go_enter Try.func58, Try.ntmps58
  go_wp2_with (at_delete; refine Disk.wpList_del_folder rfl (.tmp 7) (.tmp 9) 23 9 rfl 84 Try.underlying9 Try.underlying23 b n l hr.out loc rfl (h.out.same (RowKit.Below.heap_alloc w _ b h.out.lt)) t ht rfl ?_; intro w2 hf hturn; have c1 := after_turn hturn h.out.lt (i := 1) rfl)
  go_end0
  exact ⟨rfl, hf, only_turnedA (Below.alloc (Below.refl _ _) (Nat.le_refl _) _) hturn⟩
set_option maxRecDepth 100000 in
set_option maxHeartbeats 1000000 in
theorem goes_both (s t : ByteArray) (i b n : Nat) (l : Disk.Fo) (loc : Nat → Nat) (w : World) (h : Hid (Fol w b n l loc)) (hr : Hid (Disk.Rising l)) (hn : n < 4611686018427387904) (hs : s.size ≤ maxLen) (hes : s.toList.isEmpty = false) (ht : t.size ≤ maxLen) (he : t.toList.isEmpty = false) :
    Calls Try.prog 58 #[.agg #[.string s, .string t, .pointer (some ⟨loc i, 0, none⟩)], .map (some b)] w fun e w' => e = .returned (.tuple #[]) ∧ Fol w' b (n + 1) (Disk.put (Disk.drop l s.data.toList) t.data.toList i) loc ∧ Only (fun x => x = b) w w' := by
  go_enter Try.func58, Try.ntmps58
  go_wp2_with (first
    | (at_delete; refine Disk.wpList_del_folder rfl (.tmp 7) (.tmp 9) 23 9 rfl 84 Try.underlying9 Try.underlying23 b n l hr.out loc rfl (h.out.same (RowKit.Below.heap_alloc w _ b h.out.lt)) s hs rfl ?_; intro w2 hf hturn; have hfh := Lib.hid hf; have hth := Lib.hid hturn; have c1 := after_turn hturn h.out.lt (i := 1) rfl; have c2 := after_turn hturn h.out.lt (i := 2) rfl; clear hf hturn)
    | (at_mapUpdate; refine Disk.wpList_put_folder rfl (.tmp 13) (.tmp 15) (.tmp 17) 23 rfl 9 84 Try.underlying9 Try.underlying23 b n _ (hr.out.drop _) loc rfl hfh.out (by simp only [maxLen]; omega) t ht i rfl rfl ?_; intro w3 hf3 hturn3))
  go_end0
  exact ⟨rfl, hf3, (only_turnedA (Below.alloc (Below.refl _ _) (Nat.le_refl _) _) hth.out).trans (only_turned hturn3) fun _ h => .inl h⟩
end Go.Proofs.Ytfommpbblpnljaa
