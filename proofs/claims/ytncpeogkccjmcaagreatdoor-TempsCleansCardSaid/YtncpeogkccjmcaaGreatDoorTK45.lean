/- Texts that lead to the claim, one behind the other: What TempsCleans holds: the program's disk, the document's, a bag of names. No conditions. | What can be seen of two disks that are the same: the walk of galleylaw29.alike. No conditions. -/
import Derived.Test.YtncpeogkccjmcaaGreatDoorTK31
import Derived.Test.YtncpeogkccjmcaaGreatDoorTK36
import Derived.Test.YtncpeogkccjmcaaGreatDoorTK30
import Derived.Test.YtncpeogkccjmcaaGreatDoorTK26
import Derived.Test.YtncpeogkccjmcaaGreatDoorTK24
import Derived.Test.YtncpeogkccjmcaaGreatDoorTK14
import Derived.Test.YtncpeogkccjmcaaGreatDoorTK44
namespace Go.Proofs.YtncpeogkccjmcaaGreatDoor
open Go.RowKit Go.ChangeShapes Go.WideShapes Go.Deep

structure T29 (w0 w : World) (F G : Blocks) (d r gb : Nat) (s t : Disk.St) (vs : Nat → Value) (es : Nat → List Ent) : Prop where
  dk : DiskAt w F d s
  rf : RefFA w G r t
  bag : BagG w w0.heap.size gb vs es
  one : ∀ k, k ≠ 3 → es k = []
  below : Below w0.heap.size w0 w
  fb : ∀ b, F b → w0.heap.size ≤ b ∧ ¬ G b ∧ ¬ GF gb vs b ∧ ¬ GE es 19 b
  gb_ : ∀ b, G b → w0.heap.size ≤ b ∧ ¬ GF gb vs b ∧ ¬ GE es 19 b
section
variable {w0 w w' : World} {F G : Blocks} {d r gb : Nat} {s t s' : Disk.St} {vs : Nat → Value} {es : Nat → List Ent}
theorem dk_lt (h : DiskAt w F d s) : ∀ b, F b → b < w.heap.size := by
  obtain ⟨loc, blk, bn, bo, rowv, pA, pC, hB⟩ := h
  exact hB.lt
theorem dk_only {K : Blocks} (h : DiskAt w F d s) (ho : Only K w w') (hK : ∀ b, F b → ¬ K b) : DiskAt w' F d s := by
  obtain ⟨loc, blk, bn, bo, rowv, pA, pC, hB⟩ := h
  exact (hB.only ho hK).at_
theorem rf_lt (h : RefFA w G r t) : ∀ b, G b → b < w.heap.size := by
  obtain ⟨_, _, _, _, _, _, h⟩ := h
  exact h.lt
theorem gf_lt (h : BagG w w0.heap.size gb vs es) {b : Nat} (hb : GF gb vs b) : b < w.heap.size := by
  rcases hb with rfl | ⟨j, hj, hb⟩
  · exact h.gb_lt
  · exact ((h.own j hj).block_lt hb).2
theorem ge_lt (h : BagG w w0.heap.size gb vs es) {b : Nat} (hb : GE es 19 b) : b < w.heap.size := by
  obtain ⟨k, hk, x, hx, hb⟩ := hb
  obtain ⟨L, hL⟩ := h.ent k hk x hx
  exact (hL.block_lt hb).2
theorem T29.far (h : T29 w0 w F G d r gb s t vs es) (hb : Below w.heap.size w w') : T29 w0 w' F G d r gb s t vs es :=
  ⟨dk_only h.dk (Only.of_below hb nob) fun _ _ h => h, h.rf.far hb, h.bag.far hb, h.one, h.below.trans (hb.mono h.below.size), h.fb, h.gb_⟩
/-- A call of the program's disk. -/
theorem T29.dnext (h : T29 w0 w F G d r gb s t vs es) (h1 : DiskAt w' (grow F w w') d s') (h2 : Only F w w') : T29 w0 w' (grow F w w') G d r gb s' t vs es := by
  refine ⟨h1, h.rf.only h2 fun b hg hf => (h.fb b hf).2.1 hg, h.bag.only h2 (fun b hf => (h.fb b hf).2.2.1) (fun b hf => (h.fb b hf).2.2.2), h.one, h.below.trans (h2.below h.below.size fun b hb => (h.fb b hb).1), fun b hb => ?_, h.gb_⟩
  rcases hb with hb | hb
  · exact h.fb b hb
  · exact ⟨Nat.le_trans h.below.size hb.1, fun hg => by have := rf_lt h.rf b hg; have := hb.1; omega, fun hg => by have := gf_lt h.bag hg; have := hb.1; omega, fun hg => by have := ge_lt h.bag hg; have := hb.1; omega⟩
theorem T29.dcall {q : Disk.St × Int} {e : Ending} (h : T29 w0 w F G d r gb s t vs es) (hc : DiskCall w F d q e w') : e = .returned (.int .i64 q.2) ∧ T29 w0 w' (grow F w w') G d r gb q.1 t vs es := ⟨hc.1, h.dnext hc.2.1 hc.2.2⟩
/-- A call of the document's. -/
theorem T29.rnext (h : T29 w0 w F G d r gb s t vs es) (h1 : RefFA w' (grow G w w') r s') (h2 : Only G w w') : T29 w0 w' F (grow G w w') d r gb s s' vs es := by
  refine ⟨dk_only h.dk h2 fun b hf hg => (h.fb b hf).2.1 hg, h1, h.bag.only h2 (fun b hf => (h.gb_ b hf).2.1) (fun b hf => (h.gb_ b hf).2.2), h.one, h.below.trans (h2.below h.below.size fun b hb => (h.gb_ b hb).1), fun b hb => ?_, fun b hb => ?_⟩
  · obtain ⟨a1, a2, a3, a4⟩ := h.fb b hb
    exact ⟨a1, fun hg => hg.elim a2 fun hg => by have := dk_lt h.dk b hb; have := hg.1; omega, a3, a4⟩
  · rcases hb with hb | hb
    · exact h.gb_ b hb
    · exact ⟨Nat.le_trans h.below.size hb.1, fun hg => by have := gf_lt h.bag hg; have := hb.1; omega, fun hg => by have := ge_lt h.bag hg; have := hb.1; omega⟩
theorem T29.rcall {q : Disk.St × Int} {e : Ending} (h : T29 w0 w F G d r gb s t vs es) (hc : RefCall w G r q e w') : e = .returned (.int .i64 q.2) ∧ T29 w0 w' F (grow G w w') d r gb s q.1 vs es := ⟨hc.1, h.rnext hc.2.1 hc.2.2⟩
/-- One more row of names in the bag. -/
theorem T29.added {x : Ent} (h : T29 w0 w F G d r gb s t vs es) (hx : ∀ b, (Ent.v x).ownBlock = some b → ¬ F b ∧ ¬ G b) (ha : Added w w0.heap.size gb vs es 3 x w') : ∃ v', T29 w0 w' F G d r gb s t (setV vs 3 v') (addE es 3 x) := by
  obtain ⟨v', hb, ho, hv⟩ := ha
  have hgf : ∀ b, GF gb (setV vs 3 v') b → GF gb vs b ∨ w.heap.size ≤ b := by
    rintro b (rfl | ⟨j, hj, e⟩)
    · exact .inl (.inl rfl)
    · unfold setV at e
      split at e
      · rename_i e3
        rcases hv b e with e2 | e2
        · exact .inl (.inr ⟨3, by omega, e2⟩)
        · exact .inr e2
      · exact .inl (.inr ⟨j, hj, e⟩)
  have hge : ∀ b, GE (addE es 3 x) 19 b → GE es 19 b ∨ (Ent.v x).ownBlock = some b := by
    rintro b ⟨k, hk, y, hy, e⟩
    unfold addE at hy
    split at hy
    · rename_i e3
      subst e3
      split at hy
      · rcases List.mem_append.1 hy with hy | hy
        · exact .inl ⟨_, hk, y, hy, e⟩
        · rw [List.mem_singleton.1 hy] at e; exact .inr e
      · exact .inl ⟨_, hk, y, hy, e⟩
    · exact .inl ⟨k, hk, y, hy, e⟩
  refine ⟨v', dk_only h.dk ho fun b hf hg => (h.fb b hf).2.2.1 hg, h.rf.only ho fun b hg hf => (h.gb_ b hg).2.1 hf, hb, fun k hk => ?_, h.below.trans (h.bag.below ho), fun b hf => ?_, fun b hg => ?_⟩
  · unfold addE
    rw [if_neg hk]; exact h.one k hk
  · obtain ⟨a1, a2, a3, a4⟩ := h.fb b hf
    exact ⟨a1, a2, fun hg => (hgf b hg).elim a3 fun hg => by have := dk_lt h.dk b hf; omega, fun hg => (hge b hg).elim a4 fun e => (hx b e).1 hf⟩
  · obtain ⟨a1, a2, a3⟩ := h.gb_ b hg
    exact ⟨a1, fun hg2 => (hgf b hg2).elim a2 fun hg2 => by have := rf_lt h.rf b hg; omega, fun hg2 => (hge b hg2).elim a3 fun e => (hx b e).2 hg⟩
/-- A row of new names fits the bag. -/
theorem T29.fits {b2 : Nat} {A : Option Addr} {n c : Nat} {l : List ByteArray} (h : T29 w0 w F G d r gb s t vs es) (ho : Own Rep.str 9 w b2 nob (.slice A n c) l) (hb : w0.heap.size ≤ b2) (hl : n ≤ 1099511627776) (hlt : ∀ b, b2 ≤ b → ¬ GE es 19 b) : Fits w w0.heap.size gb vs es 3 (A, n, c) :=
  Fits.of h.bag (by omega) (by omega) (by omega) (by omega) ho hb rfl hl fun q hq y hy e => hlt q (ho.block_lt hq).1 ⟨3, by omega, y, hy, e⟩
end
end Go.Proofs.YtncpeogkccjmcaaGreatDoor
namespace Go.Proofs.YtncpeogkccjmcaaGreatDoor
open Go.RowKit Go.ChangeShapes Go.WideShapes Go.Deep

section
variable {w : World} {F G : Blocks} {d r : Nat} {s : Disk.St}
set_option linter.unusedSimpArgs false in
set_option maxRecDepth 100000 in
set_option maxHeartbeats 4000000 in
theorem alike_any (HD : Hid (DiskAt w F d s)) (HR : Hid (RefFA w G r s)) (hf : Hid (Disk.Fine s)) :
    Calls Tryz.prog 13 #[.pointer (some ⟨d, 0, none⟩), .pointer (some ⟨r, 0, none⟩)] w fun e w' => e = .returned (.bool true) ∧ Below w.heap.size w w' := by
  obtain ⟨on, hon⟩ : ∃ b, b = s.on := ⟨_, rfl⟩
  obtain ⟨dn, hdn⟩ : ∃ b, b = s.done := ⟨_, rfl⟩
  obtain ⟨pn, hpn⟩ : ∃ b, b = s.row.length := ⟨_, rfl⟩
  have P1 := Lib.hid (power_any HD)
  have P2 := Lib.hid (refPower_any HR)
  have Q1 := Lib.hid (pending_any HD)
  have Q2 := Lib.hid (refPending_any HR)
  have R1 := Lib.hid (done_any HD)
  have R2 := Lib.hid (refDone_any HR)
  rw [← hon] at P1 P2
  rw [← hpn] at Q1 Q2
  rw [← hdn] at R1 R2
  clear hon hdn hpn
  have o1 : (on == on) = true := beq_self_eq_true _
  have o2 : ((pn : Int) == (pn : Int)) = true := beq_self_eq_true _
  have o3 : (dn == dn) = true := beq_self_eq_true _
  go_enter Tryz.func13, Tryz.ntmps13
  go_wp2_with fail
  refine P1.out.mono ?_
  rintro e w1 ⟨rfl, rfl⟩
  go_wp2_with fail
  refine P2.out.mono ?_
  rintro e w1 ⟨rfl, hw⟩
  subst hw
  go_wp2_with fail
  refine Q1.out.mono ?_
  rintro e w1 ⟨rfl, hw⟩
  subst hw
  go_wp2_with fail
  refine Q2.out.mono ?_
  rintro e w1 ⟨rfl, hw⟩
  subst hw
  go_wp2_with fail
  refine R1.out.mono ?_
  rintro e w1 ⟨rfl, hw⟩
  subst hw
  go_wp2_with fail
  refine R2.out.mono ?_
  rintro e w1 ⟨rfl, hw⟩
  subst hw
  go_wp2_with fail
  refine (files_any HD hf).mono ?_
  rintro e w2 ⟨xA, xn, xc, rfl, hxn, hxc, hxm, hxo, hb2⟩
  have HXN := Lib.hid hxn.out
  obtain ⟨-, hxs⟩ := hxo.slice
  have HX := Lib.hid hxs
  have HB2 := Lib.hid hb2
  have HR2 := Lib.hid (HR.out.far hb2)
  clear hxn hxo hxs hb2
  go_wp2_with fail
  refine (refFiles_any HR2 hf).mono ?_
  rintro e w3 ⟨gA, gn, gc, rfl, hgn, hgc, hgm, hgo, hb3⟩
  obtain ⟨-, hgs⟩ := hgo.slice
  have HG := Lib.hid hgs
  have HB3 := Lib.hid hb3
  obtain rfl : xn = gn := by rw [HXN.out, hgn.out]
  have HEF := Lib.hid (eqFiles_yes (w := w3) (s.files.map Disk.toFin) xA gA xn xc gc _ _ (Lib.hid (by rw [List.length_map]; exact HXN.out)) (Lib.hid (HX.out.keep (fun _ h => h) (Same.of_below hb3 fun b hb => hb.2))) HG (Lib.hid fun b hb => Nat.lt_of_lt_of_le hb.2 hb3.size) (Lib.hid fun b hb => hb.2))
  clear hgn hgo hgs hb3
  go_wp2_with fail
  refine HEF.out.mono ?_
  rintro e w4 ⟨rfl, hb4⟩
  have HB4 := Lib.hid hb4
  clear hb4
  go_wp2_with fail
  go_ret
  exact ⟨rfl, HB2.out.trans ((HB3.out.trans (HB4.out.mono HB3.out.size)).mono HB2.out.size)⟩
end
end Go.Proofs.YtncpeogkccjmcaaGreatDoor
