/- Options compared, where they are the same: the walk of galleyref00.EqOptions. No conditions. -/
import Derived.Test.YtmjagjcaepbklaaDoorProg
import Derived.Test.YtmjagjcaepbklaaDoorEqParts
import Derived.WalkKit
import Derived.Handy
namespace Go.Proofs.YtmjagjcaepbklaaDoor
open Go.RowKit

theorem below_drewN' (w : World) (n : Nat) : Below w.heap.size w (w.drewN n) := ⟨rfl, rfl, rfl, Nat.le_refl _, fun _ _ => rfl⟩
set_option maxRecDepth 100000 in
set_option maxHeartbeats 2000000 in
theorem eqOptions_yes (f : Opts.Fl) (ps : List Opts.Prt) (fs : List ByteArray) (A B C D : Option Addr) (n m ca cb cc cd : Nat) (w : World) (S1 S2 S3 S4 : Blocks) (hn : Hid (n = ps.length)) (hm : Hid (m = fs.length))
    (h1 : Hid (SliceAt Rep.prt w S1 A ca ps)) (h2 : Hid (SliceAt Rep.prt w S2 B cb ps)) (h3 : Hid (SliceAt Rep.str w S3 C cc fs)) (h4 : Hid (SliceAt Rep.str w S4 D cd fs))
    (s1 : Hid (∀ b, S1 b → b < w.heap.size)) (s2 : Hid (∀ b, S2 b → b < w.heap.size)) (s3 : Hid (∀ b, S3 b → b < w.heap.size)) (s4 : Hid (∀ b, S4 b → b < w.heap.size)) :
    Calls Tryd.prog 11 #[.agg #[.bool f.q, .bool f.e, .bool f.a, .bool f.i, .slice A n ca, .slice C m cc], .agg #[.bool f.q, .bool f.e, .bool f.a, .bool f.i, .slice B n cb, .slice D m cd]] w fun e w' => e = .returned (.bool true) ∧ Below w.heap.size w w' := by
  have HP : Hid (∀ W, Below w.heap.size w W → Calls Tryd.prog 30 #[.slice A n ca, .slice B n cb] W fun e w' => e = .returned (.bool true) ∧ Below W.heap.size W w') := Lib.hid fun W hW => by
    have k := eqParts A B ca cb ps ps W S1 S2 (h1.out.keep (fun _ h => h) (Same.of_below hW s1.out)) (h2.out.keep (fun _ h => h) (Same.of_below hW s2.out))
    rw [← hn.out] at k
    refine k.mono ?_
    rintro e w' ⟨rfl, q, rfl⟩
    exact ⟨by simp, below_drewN' _ _⟩
  have HF : Hid (∀ W, Below w.heap.size w W → Calls Tryd.prog 15 #[.slice C m cc, .slice D m cd] W fun e w' => e = .returned (.bool true) ∧ Below W.heap.size W w') := Lib.hid fun W hW => by
    have k := eqTexts C D cc cd fs fs W S3 S4 (h3.out.keep (fun _ h => h) (Same.of_below hW s3.out)) (h4.out.keep (fun _ h => h) (Same.of_below hW s4.out))
    rw [← hm.out] at k
    refine k.mono ?_
    rintro e w' ⟨rfl, q, rfl⟩
    exact ⟨by simp, below_drewN' _ _⟩
  clear h1 h2 h3 h4 s1 s2 s3 s4
  go_enter Tryd.func11, Tryd.ntmps11
  have hB0 := fun (o1 o2 : Obj) => ((Below.refl w.heap.size w).alloc (Nat.le_refl _) o1).alloc (by simp) o2
  have HB0 := Lib.hid hB0
  clear hB0
  go_wp2_with fail
  refine (HP.out _ (HB0.out _ _)).mono ?_
  rintro e w2 ⟨rfl, hb2⟩
  have k1 : w2.cell? ⟨w.heap.size, 5, none⟩ = some (.slice C m cc) := (hb2.cell (p := ⟨w.heap.size, 5, none⟩) (by simp; omega)).trans (by
    refine cell_of_row _ w.heap.size 5 #[.bool f.q, .bool f.e, .bool f.a, .bool f.i, .slice A n ca, .slice C m cc] 25 (0, 0) ?_
    rw [heap_alloc_old _ _ (by simp)]
    exact heap_alloc_new _ _)
  have k2 : w2.cell? ⟨w.heap.size + 1, 5, none⟩ = some (.slice D m cd) := (hb2.cell (p := ⟨w.heap.size + 1, 5, none⟩) (by simp)).trans (by
    refine cell_of_row _ (w.heap.size + 1) 5 #[.bool f.q, .bool f.e, .bool f.a, .bool f.i, .slice B n cb, .slice D m cd] 25 (0, 0) ?_
    have := heap_alloc_new (w.alloc (.cells #[.bool f.q, .bool f.e, .bool f.a, .bool f.i, .slice A n ca, .slice C m cc] 25)) (.cells #[.bool f.q, .bool f.e, .bool f.a, .bool f.i, .slice B n cb, .slice D m cd] 25)
    simpa using this)
  have HB2 := Lib.hid ((HB0.out _ _).trans (hb2.mono (by simp; omega)))
  clear hb2
  go_wp2_with fail
  refine (HF.out _ HB2.out).mono ?_
  rintro e w3 ⟨rfl, hb3⟩
  have HB3 := Lib.hid (HB2.out.trans (hb3.mono HB2.out.size))
  clear hb3
  go_wp2_with fail
  go_ret
  exact ⟨rfl, HB3.out⟩
end Go.Proofs.YtmjagjcaepbklaaDoor
