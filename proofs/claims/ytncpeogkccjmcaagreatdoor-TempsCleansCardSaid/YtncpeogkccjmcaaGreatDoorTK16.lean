/- Texts that lead to the claim, one behind the other: The files of a disk, in the order of their names: the walk of (disk.Disk).Files. Condition: none. | The power comes: the walk of (disk.Disk).Start. Condition: none. -/
import Derived.Test.YtncpeogkccjmcaaGreatDoorTK14
import Derived.Test.YtncpeogkccjmcaaGreatDoorTK15
import Derived.Deep.LoopGhost
import Derived.BigRegion
namespace Go.Proofs.YtncpeogkccjmcaaGreatDoor
open Go.RowKit Go.ChangeShapes Go.WideShapes Go.Deep

/-- A file as it is told: its name, what it is; the value of its bytes beside it. -/
abbrev TF := (Disk.Nm × Disk.Nd) × Value
def Rep.fileV : Rep TF where
  n := 4
  is := fun _ _ cs x => cs = [sv x.1.1, x.2, .int .i64 x.1.2.syn, .bool x.1.2.bad] ∧ x.1.1.length ≤ maxLen ∧ x.1.2.syn ≤ 16777216 ∧ x.2.oneCell' = true
  size := by rintro _ _ _ _ ⟨rfl, _⟩; rfl
  keep := by rintro _ _ _ _ _ _ ⟨rfl, h⟩ _ _; exact ⟨rfl, h⟩
  one := by rintro _ _ _ x ⟨rfl, _, _, h⟩; simp [Value.oneCell', sv]; exact h
theorem stFile : SliceType Tryz.prog 22 78 4 56 := SliceType.mk' (z := .agg #[.string ⟨#[]⟩, .slice none 0 0, .int .i64 0, .bool false]) Tryz.underlying22 (by kernel_rfl) rfl (by omega)
/-- Bytes' rows of the call's own, side by side. -/
structure RowsB (w : World) (base : Nat) (l : List TF) : Prop where
  own : ∀ x ∈ l, Own Rep.byte 5 w base nob x.2 x.1.2.bytes
  apart : l.Pairwise fun x y => ∀ b, x.2.ownBlock = some b → y.2.ownBlock ≠ some b
/-- What Files leaves: new memory. -/
def FilesOwn (w : World) (base : Nat) (v : Value) (l : List (Disk.Nm × Disk.Nd)) : Prop := ∃ vs, vs.map (·.1) = l ∧ Own Rep.fileV 78 w base nob v vs ∧ RowsB w base vs
def FilesPost (w : World) (l : List (Disk.Nm × Disk.Nd)) (e : Ending) (w' : World) : Prop :=
  ∃ A n c, e = .returned (.slice A n c) ∧ Hid (n = l.length) ∧ n ≤ c ∧ c ≤ 9223372036854775807 ∧ FilesOwn w' w.heap.size (.slice A n c) l ∧ Below w.heap.size w w'
theorem RowsB.far {w w' : World} {base : Nat} {l : List TF} (h : RowsB w base l) (hb : Below w.heap.size w w') : RowsB w' base l := ⟨fun x hx => (h.own x hx).far hb, h.apart⟩
theorem RowsB.grown {w w' : World} {base : Nat} {l : List TF} (h : RowsB w base l) {row : Option Nat} (hg : w.grownBy w' row) (hr : ∀ b, row = some b → ∀ cs f, w.heap[b]? ≠ some (.cells cs 5 f)) : RowsB w' base l :=
  ⟨fun x hx => (h.own x hx).mono hg (by
    cases e : x.2.ownBlock with
    | none => exact .inl rfl
    | some b =>
      right
      intro e2
      obtain ⟨cur, hc⟩ := (h.own x hx).content e
      exact hr b e2.symm _ _ hc) fun _ h => h.elim, h.apart⟩
theorem RowsB.snoc {w : World} {base B2 : Nat} {l : List TF} {x : TF} (h : RowsB w base l) (hx : Own Rep.byte 5 w B2 nob x.2 x.1.2.bytes) (hB : base ≤ B2) (hl : ∀ y ∈ l, ∀ b, y.2.ownBlock = some b → b < B2) : RowsB w base (l ++ [x]) := by
  refine ⟨fun y hy => ?_, ?_⟩
  · rcases List.mem_append.1 hy with hy | hy
    · exact h.own y hy
    · rw [List.mem_singleton.1 hy]; exact hx.low hB
  · rw [List.pairwise_append]
    refine ⟨h.apart, by simp, fun y hy z hz b hb e => ?_⟩
    rw [List.mem_singleton.1 hz] at e
    have := hl y hy b hb
    have := (hx.block_lt e).1
    omega
section
variable {w : World} {F : Blocks} {d : Nat} {s : Disk.St}
theorem eClone : ∀ args w, (callFunc 21 args).run Tryz.prog w = .ok (.enter 21 args) w := enters_of Tryz.func21 (by kernel_rfl) rfl
theorem files_step {w1 wr w10 w3 : World} {k : Disk.Nm} {nd : Disk.Nd} {vs : List TF} {A3 A' : Option Addr} {n3 c3 m c' : Nat} {v3 : Value} (hv : Own Rep.fileV 78 wr w1.heap.size nob (.slice A3 n3 c3) vs) (hrb : RowsB wr w1.heap.size vs) (hb : Below w1.heap.size w1 wr)
    (hown : Own Rep.byte 5 w10 wr.heap.size nob (.slice A' m c') nd.bytes) (hb10 : Below wr.heap.size wr w10) (ob : Obj) (hg3 : (w10.alloc ob).grownBy w3 (Value.slice A3 n3 c3).ownBlock) (hown3 : Own Rep.fileV 78 w3 w1.heap.size nob v3 (vs ++ [((k, nd), .slice A' m c')])) :
    ∃ A5 n5 c5 vv, v3 = .slice A5 n5 c5 ∧ n5 ≤ c5 ∧ c5 ≤ 9223372036854775807 ∧ Hid (n5 = (vs ++ [((k, nd), vv)]).length) ∧ Hid (Own Rep.fileV 78 w3 w1.heap.size nob (.slice A5 n5 c5) (vs ++ [((k, nd), vv)])) ∧ Hid (RowsB w3 w1.heap.size (vs ++ [((k, nd), vv)])) ∧ Hid (Below w1.heap.size w1 w3) := by
  obtain ⟨A5, n5, c5, rfl, hn5, hnc5, hcm5⟩ := hown3.form
  have hs1 := hb.size
  have hs2 := hb10.size
  refine ⟨A5, n5, c5, .slice A' m c', rfl, hnc5, hcm5, hn5, Lib.hid hown3, Lib.hid ?_, Lib.hid ?_⟩
  · have h1 := (hrb.far hb10).snoc (x := ((k, nd), .slice A' m c')) hown hs1 (fun y hy b hb => (hrb.own y hy).block_lt hb |>.2)
    refine (h1.far (Below.alloc (Below.refl _ w10) (Nat.le_refl _) ob)).grown hg3 fun b hb cs f hc => ?_
    obtain ⟨cur, hcur⟩ := ((hv.far hb10).alloc ob).content hb
    rw [hcur] at hc
    injection hc with hc
    injection hc with _ e
    exact absurd e (by decide)
  · exact below_own ((hb.trans (hb10.mono hs1)).alloc (Nat.le_trans hs1 hs2) _) ((hv.far hb10).alloc ob) hg3 (by simp; omega)
set_option maxRecDepth 100000 in
set_option maxHeartbeats 4000000 in
theorem files_any (HA : Hid (DiskAt w F d s)) (hf : Hid (Disk.Fine s)) : Calls Tryz.prog 59 #[.pointer (some ⟨d, 0, none⟩)] w (FilesPost w s.files) := by
  obtain ⟨on, hon⟩ : ∃ b, s.on = b := ⟨_, rfl⟩
  have HN := Lib.hid (diskNames_any HA hf)
  have HON := Lib.hid hon
  clear hon
  go_enter Tryz.func59, Tryz.ntmps59
  go_wp2_with fail
  refine HN.out.mono ?_
  rintro e w1 ⟨A, n, c, rfl, hn, hnc, hcm, hown, hb1⟩
  have HN1 := hn
  have HO1 := Lib.hid hown
  have HB1 := Lib.hid hb1
  clear hown hb1 hn
  have hnl : n ≤ 64 := by
    rw [HN1.out]
    unfold Disk.St.names
    split
    · simp [Disk.keys]; exact hf.out.nowL
    · simp
  go_wp2_with fail
  cases on
  · have h0 : n = 0 := by rw [HN1.out]; simp [Disk.St.names, HON.out]
    subst h0
    refine wp_loop_rounds 1 ?_
    rw [rounds_succ]
    go_wp2_with fail
    go_ret
    have : s.files = [] := by simp [Disk.St.files, HON.out]
    rw [this]
    exact ⟨none, 0, 0, rfl, Lib.hid rfl, Nat.le_refl _, by omega, ⟨[], rfl, Own.nil _ _ _ _, ⟨by simp, List.Pairwise.nil⟩⟩, HB1.out⟩
  have hNm : s.names = Disk.keys s.now := by simp [Disk.St.names, HON.out]
  rw [hNm] at HN1 HO1
  have hFl : Hid (s.files = s.now.map fun p => (p.1, (s.all[p.2]?).getD ⟨[], 0, false⟩)) := Lib.hid (by simp [Disk.St.files, HON.out])
  have hnow : Hid (n = s.now.length) := Lib.hid (by rw [HN1.out]; simp [Disk.keys])
  obtain ⟨loc, blk, bn, bo, rowv, pA, pC, hB⟩ := HA.out
  have H1 := Lib.hid (hB.far HB1.out)
  obtain ⟨A9, c9, he9, hsl⟩ := HO1.out.slice
  simp only [Value.slice.injEq] at he9
  obtain ⟨rfl, -, rfl⟩ := he9
  have HSL := Lib.hid (hsl.up (S' := fun b => b < w1.heap.size) fun b hb => by
    rcases hb with ⟨-, h, -⟩ | h
    · exact h
    · exact h.elim)
  clear hNm hB hsl
  go_loopg [3, 5, 6, 10] n (fun q v _ _ i wr => ∃ (j : Nat) (A3 : Option Addr) (n3 c3 : Nat) (vs : List TF), q = n - j ∧ j ≤ n ∧ i = .int .i64 j ∧ v = .slice A3 n3 c3 ∧ n3 ≤ c3 ∧ c3 ≤ 9223372036854775807 ∧ Hid (n3 = vs.length) ∧ Hid (vs.map (·.1) = s.files.take j) ∧ Hid (Own Rep.fileV 78 wr w1.heap.size nob (.slice A3 n3 c3) vs) ∧ Hid (RowsB wr w1.heap.size vs) ∧ Hid (Below w1.heap.size w1 wr))
  case atStart => exact ⟨0, none, 0, 0, [], by omega, by omega, rfl, rfl, Nat.le_refl _, by omega, Lib.hid rfl, Lib.hid rfl, Lib.hid (Own.nil _ _ _ _), Lib.hid ⟨by simp, List.Pairwise.nil⟩, Lib.hid (Below.refl _ _)⟩
  case round =>
    obtain ⟨j, A3, n3, c3, vs, rfl, hj, rfl, rfl, hnc3, hcm3, HN3, HVS, HV, HRB, HB⟩ := hrel
    have hvl : Hid (vs.length = j) := Lib.hid (by
      have := congrArg List.length HVS.out
      rw [List.length_map, List.length_take, hFl.out, List.length_map, ← hnow.out] at this
      omega)
    by_cases hjn : j < n
    · have hjl : j < s.now.length := by rw [← hnow.out]; exact hjn
      obtain ⟨p, hp⟩ : ∃ p, s.now[j] = p := ⟨_, rfl⟩
      obtain ⟨k, i⟩ := p
      have hfind := Disk.find_of_mem hf.out.good.nowR (k := k) (i := i) (by rw [← hp]; exact List.getElem_mem hjl)
      have hil : i < s.all.length := hf.out.nowI i (List.mem_map.2 ⟨_, Disk.mem_of_find hfind, rfl⟩)
      obtain ⟨g, o, cs, rfl, hg, hc, hcs, hks⟩ := HSL.out.at_ (i := j) (by rw [List.length_map, ← HN1.out]; exact hjn)
      have hkj : ((Disk.keys s.now).map ba)[j]'(by rw [List.length_map, ← HN1.out]; exact hjn) = ba k := by simp [Disk.keys, hp]
      rw [hkj] at hcs hks
      subst hcs
      have hcw := (hc.below HB.out hg).one
      rw [show Rep.str.n = 1 from rfl, Nat.mul_one] at hcw
      have H2 := Lib.hid (H1.out.far HB.out)
      obtain ⟨nd, hnd⟩ : ∃ nd, s.all[i]? = some nd := ⟨_, List.getElem?_eq_getElem hil⟩
      obtain ⟨A, c, hh, hrow⟩ := H2.out.files i nd hnd
      obtain ⟨m, hm⟩ : ∃ m, m = nd.bytes.length := ⟨_, rfl⟩
      rw [← hm] at hh
      have hm24 : m ≤ 16777216 := by rw [hm]; exact hf.out.big nd (List.mem_of_getElem? hnd)
      have hsy : nd.syn ≤ 16777216 := Nat.le_trans (hf.out.good.sync nd (List.mem_of_getElem? hnd)) (hf.out.big nd (List.mem_of_getElem? hnd))
      have k0 : wr.cell? ⟨loc i, 0, none⟩ = some (.slice A m c) := (cell_of_row wr _ 0 _ _ (0, 0) hh).trans rfl
      have k1 : wr.cell? ⟨loc i, 1, none⟩ = some (.int .i64 nd.syn) := (cell_of_row wr _ 1 _ _ (0, 0) hh).trans rfl
      have k2 : wr.cell? ⟨loc i, 2, none⟩ = some (.bool nd.bad) := (cell_of_row wr _ 2 _ _ (0, 0) hh).trans rfl
      have cd0 := H2.out.cell 0 _ rfl
      have hlk := H2.out.now.look (t := 34) (e := 80) Tryz.underlying9 Tryz.underlying34 (Tryz.zeroValue80 _) (ba k) hks
      rw [show (ba k).data.toList = k from rfl, show Disk.ptrOf s.now loc k = .pointer (some ⟨loc i, 0, none⟩) from by simp [Disk.ptrOf, hfind]] at hlk
      have HCL : Hid (∀ W, Below wr.heap.size wr W → Calls Tryz.prog 21 #[.slice A m c] W fun e w' => ∃ A' c', e = .returned (.slice A' m c') ∧ m ≤ c' ∧ c' ≤ 9223372036854775807 ∧ Own Rep.byte 5 w' W.heap.size nob (.slice A' m c') nd.bytes ∧ Below W.heap.size W w') := Lib.hid fun W hW => by
        have hrW := hrow.same fun x hx => hW.block x (hrow.lt hx)
        exact cloneBytes A m c nd.bytes W _ (Lib.hid hm) (Lib.hid hrW.slice) (Lib.hid fun x hx => hrW.lt hx.symm) (by omega)
      have hli : loc i < wr.heap.size := (Array.getElem?_eq_some_iff.1 hh).1
      have HM := Lib.hid hm
      have HP := Lib.hid hp
      have HND := Lib.hid hnd
      have HKS : k.length ≤ maxLen := by rw [← ba_size]; exact hks
      clear hh hrow hm hp hnd hc hg hfind hkj
      go_upto_region 6 with fail
      go_region_law (first
        | (refine step_call_law rfl 21 #[.tmp 26] #[67] rfl eClone #[.slice A m c] (by simp [Act.eval]) _ (HCL.out _ ⟨rfl, rfl, rfl, Nat.le_refl _, fun _ _ => rfl⟩) ?_; rintro e w10 ⟨A', c', rfl, h1, h2, hown, hb10⟩; have HOWN := Lib.hid hown; have HB10 : Hid (Below wr.heap.size wr w10) := Lib.hid ⟨hb10.os, hb10.tape, hb10.output, hb10.size, hb10.block⟩; have k11 : w10.cell? ⟨loc i, 1, none⟩ = some (.int .i64 nd.syn) := (HB10.out.cell (p := ⟨loc i, 1, none⟩) hli).trans k1; have k12 : w10.cell? ⟨loc i, 2, none⟩ = some (.bool nd.bad) := (HB10.out.cell (p := ⟨loc i, 2, none⟩) hli).trans k2; clear hown hb10; refine ⟨_, rfl, ?_⟩)
        | (refine step_append_Own rfl (.tmp 21) (.tmp 37) 22 rfl Rep.fileV w1.heap.size 78 56 stFile nob (.slice A3 n3 c3) vs (by simp [Act.eval]) ((HV.out.far HB10.out).alloc _) _ (some ⟨_, 0, none⟩) 1 [((k, nd), .slice A' m c')] (by simp [Act.eval]) (SliceAt.new1 Rep.fileV _ _ _ ((k, nd), .slice A' m c') nob ⟨rfl, HKS, hsy, rfl⟩ (fun _ h => h.elim)) nob (fun _ h => h.elim) (fun _ h => h) (fun _ _ h => h) (by have := hvl.out; simp <;> omega) (by have := hvl.out; simp <;> omega) (by have := HB.out.size; have := HB10.out.size; simp <;> omega) ?_; intro v3 w3 hown3 hg3 hat3; have HOWN3 := Lib.hid hown3; have HG3 := Lib.hid hg3; clear hown3 hg3 hat3))
      all_goals
        obtain ⟨A5, n5, c5, vv, rfl, hnc5, hcm5, HN5, HOWN5, HRB5, HB5⟩ := files_step HV.out HRB.out HB.out HOWN.out HB10.out _ HG3.out HOWN3.out
        go_wp2_with fail
        go_roundg (n - (j + 1))
        case measure => omega
        case rel =>
          have hlast : s.files.take (j + 1) = s.files.take j ++ [(k, nd)] := by
            have hjf : j < s.files.length := by rw [hFl.out, List.length_map]; exact hjl
            rw [List.take_succ_eq_append_getElem hjf]
            congr 1
            simp only [hFl.out, List.getElem_map, HP.out, HND.out, Option.getD_some]
          exact ⟨j + 1, A5, n5, c5, vs ++ [((k, nd), vv)], by omega, by omega, by go_num, rfl, hnc5, hcm5, HN5, Lib.hid (by rw [List.map_append, HVS.out, hlast]; rfl), HOWN5, HRB5, HB5⟩
    · obtain rfl : j = n := by omega
      go_wp2_with fail
      go_ret
      refine ⟨A3, n3, c3, rfl, Lib.hid ?_, hnc3, hcm3, ⟨vs, ?_, HV.out.low HB1.out.size, ⟨fun x hx => (HRB.out.own x hx).low HB1.out.size, HRB.out.apart⟩⟩, HB1.out.trans (HB.out.mono HB1.out.size)⟩
      · rw [HN3.out, hvl.out, hnow.out, hFl.out, List.length_map]
      · rw [HVS.out, hFl.out, List.take_of_length_le (by rw [List.length_map, ← hnow.out]; exact Nat.le_refl _)]
end
end Go.Proofs.YtncpeogkccjmcaaGreatDoor
namespace Go.Proofs.YtncpeogkccjmcaaGreatDoor
open Go.RowKit Go.ChangeShapes Go.WideShapes Go.Deep

namespace Disk
theorem cuts_snoc (keep : List Int) (p : Nm × Nat) : ∀ (l : Fo) (i : Nat) (a : List Nd), St.cuts keep i (l ++ [p]) a = (St.cuts keep i l a).modify p.2 fun d => St.cutNd d keep[i + l.length]?
  | [], i, a => by simp [St.cuts]
  | q :: l, i, a => by
    rw [List.cons_append, St.cuts, cuts_snoc keep p l, St.cuts, List.length_cons]
    congr 3
    funext d
    congr 2
    omega
end Disk
section
variable {w w' : World} {F : Blocks} {d : Nat} {s : Disk.St} {loc : Nat → Nat} {blk : Nat → Option Nat} {bn bo : Nat} {rowv : Value} {pA : Option Addr} {pC : Nat}
theorem run_slice_tight {P : Program} {w : World} {t e : TypeId} {size bytes : Nat} (hT : SliceType P t e size bytes) (A : Option Addr) (n c k : Nat) (hk : k ≤ c) : (Instr.sliceAt t (.slice A n c) none (some (.int .i64 (k : Int))) (some (.int .i64 (k : Int)))).run P w = .ok (.slice A k k) w := by
  obtain ⟨i, z, hi, hz, hs, hb, hzs⟩ := hT.hi
  have he : P.elem t = e := by simp [Program.elem, hT.ht]
  have ht' : P.underlying t = some (.slice (P.elem t)) := by rw [he]; exact hT.ht
  rw [run_sliceAt_slice (P := P) (w := w) t _ _ _ _ ht', run_slice_hm (P := P) (w := w) t A n c ht' .i64 .i64 k k (by omega) (by omega) (by omega), he]
  simp [sizeOf, typeInfo, hi, sliced, Result.andThen]
  intro _
  cases A <;> simp [Addr.add]
theorem CellsAt.three {w : World} {g o : Nat} {u v x : Value} (h : CellsAt w g o [u, v, x]) : w.cell? ⟨g, o, none⟩ = some u ∧ w.cell? ⟨g, o + 1, none⟩ = some v ∧ w.cell? ⟨g, o + 2, none⟩ = some x := ⟨h 0 u rfl, h 1 v rfl, h 2 x rfl⟩
/-- The blocks that turn while the power comes. -/
def startG (d bo : Nat) (loc : Nat → Nat) (N : Nat) : Blocks := fun x => x = d ∨ x = bo ∨ ∃ i, i < N ∧ x = loc i
theorem startG_other (H : DiskB w F d s loc blk bn bo rowv pA pC) {t : TypeId} (h1 : 40 ≠ t) (h2 : 84 ≠ t) : Other w (startG d bo loc s.all.length) t := by
  obtain ⟨es, cl, hm⟩ := folder_map H.old
  rintro b (rfl | rfl | ⟨i, hi, rfl⟩) cs f hc
  · exact Other.one H.hd h1 b rfl _ _ hc
  · exact Other.map hm t b rfl _ _ hc
  · obtain ⟨A, c, h', -⟩ := H.files i s.all[i] (List.getElem?_eq_getElem hi)
    exact Other.one h' h2 _ rfl _ _ hc
theorem startG_F (H : DiskB w F d s loc blk bn bo rowv pA pC) : ∀ x, startG d bo loc s.all.length x → F x := by
  rintro x (rfl | rfl | ⟨i, hi, rfl⟩)
  · exact H.Fd
  · exact H.Fo
  · exact H.Fl i hi
/-- The disk behind the power's coming. -/
theorem DiskB.started (H : DiskB w F d s loc blk bn bo rowv pA pC) (l : Disk.Fo) (all : List Disk.Nd) (hlen : all.length = s.all.length) {n n2 b2 : Nat} (ho : Only (startG d bo loc s.all.length) w w')
    (hd : w'.heap[d]? = some (.cells #[.map (some bo), .map (some b2), .slice none 0 0, .bool true, .bool true, .int .i64 s.room, .slice pA s.plan.length pC, .int .i64 s.tries, .int .i64 s.done] 40 (0, 0)))
    (hnow : Fol w' bo n l loc) (hold : Fol w' b2 n2 l loc) (hb2 : w.heap.size ≤ b2) (hf : ∀ i nd, all[i]? = some nd → FileAt w' (loc i) (blk i) nd) :
    DiskB w' (grow F w w') d { s with now := l, old := l, row := [], on := true, all := all } loc blk bo b2 (.slice none 0 0) pA pC :=
  { hd := hd, now := hnow.tight, old := hold.tight, ne := fun e => by have := H.lt bo H.Fo; omega, row := Own.nil _ _ _ _, plan := H.plan.other ho (startG_other H (by decide) (by decide)), files := hf, inj := by rw [hlen]; exact H.inj, binj := by rw [hlen]; exact H.binj,
    Fd := .inl H.Fd, Fn := .inl H.Fo, Fo := .inr ⟨hb2, hold.lt⟩, Fr := fun b hb => by simp [Value.ownBlock] at hb, Fp := fun b h0 hb => .inl (H.Fp b h0 hb), Fl := by rw [hlen]; exact fun i hi => .inl (H.Fl i hi), Fb := by rw [hlen]; exact fun i b hi hb => .inl (H.Fb i b hi hb), lt := grow_lt H.lt ho.size }
/-- One file cut. -/
theorem start_step {w5 wa : World} {l : Disk.Fo} {keep : List Int} {q i x nm : Nat} {nd : Disk.Nd} {fA : Option Addr} {fc m sy : Nat} {cs : Array Value} (H : DiskB w F d s loc blk bn bo rowv pA pC) {k : Disk.Nm}
    (hql : q < l.length) (hp : l[q] = (k, i)) (hil : i < s.all.length) (hnd : (Disk.St.cuts keep 0 (l.take q) s.all)[i]? = some nd) (hsyn : nd.syn ≤ nd.bytes.length) (hx : x = (Disk.St.cutNd nd keep[q]?).syn) (hm : m = nd.bytes.length)
    (h1 : wa.heap[loc i]? = some (.cells #[.slice fA m fc, .int .i64 sy, .bool nd.bad] 84 (0, 0))) (hrow : RowT 5 wa fA fc (blk i) nd.bytes)
    (h2 : ∀ i nd, (Disk.St.cuts keep 0 (l.take q) s.all)[i]? = some nd → FileAt wa (loc i) (blk i) nd) (h3 : wa.heap[d]? = some (.cells cs 40 (0, 0))) (h4 : Fol wa bo nm l loc) (h5 : Only (fun x => ∃ i, i < s.all.length ∧ x = loc i) w5 wa) :
    Hid (∀ i' nd, (Disk.St.cuts keep 0 (l.take (q + 1)) s.all)[i']? = some nd → FileAt ((wa.setCell ⟨loc i, 0, none⟩ (.slice fA x x)).setCell ⟨loc i, 1, none⟩ (.int .i64 (x : Nat))).drew (loc i') (blk i') nd) ∧
      Hid (((wa.setCell ⟨loc i, 0, none⟩ (.slice fA x x)).setCell ⟨loc i, 1, none⟩ (.int .i64 (x : Nat))).drew.heap[d]? = some (.cells cs 40 (0, 0))) ∧
      Hid (Fol ((wa.setCell ⟨loc i, 0, none⟩ (.slice fA x x)).setCell ⟨loc i, 1, none⟩ (.int .i64 (x : Nat))).drew bo nm l loc) ∧
      Hid (Only (fun x => ∃ i, i < s.all.length ∧ x = loc i) w5 ((wa.setCell ⟨loc i, 0, none⟩ (.slice fA x x)).setCell ⟨loc i, 1, none⟩ (.int .i64 (x : Nat))).drew) := by
  obtain ⟨W, hW⟩ : ∃ W, W = ((wa.setCell ⟨loc i, 0, none⟩ (.slice fA x x)).setCell ⟨loc i, 1, none⟩ (.int .i64 (x : Nat))).drew := ⟨_, rfl⟩
  rw [← hW]
  have hoth : ∀ b, b ≠ loc i → W.heap[b]? = wa.heap[b]? := fun b hb => by
    rw [hW]
    exact (Below.heap_setCell (wa.setCell ⟨loc i, 0, none⟩ (.slice fA x x)) ⟨loc i, 1, none⟩ _ b hb).trans (Below.heap_setCell wa ⟨loc i, 0, none⟩ _ b hb)
  have hself : W.heap[loc i]? = some (.cells #[.slice fA x x, .int .i64 (x : Nat), .bool nd.bad] 84 (0, 0)) := by
    rw [hW]; simp [World.setCell, World.drew, Array.getElem?_modify, h1]
  have hcb : (Disk.St.cutNd nd keep[q]?).bytes = nd.bytes.take x ∧ (Disk.St.cutNd nd keep[q]?).bad = nd.bad ∧ x ≤ nd.bytes.length := by
    rw [hx]
    refine ⟨rfl, rfl, ?_⟩
    cases keep[q]? with
    | none => show nd.syn + 0 ≤ _; omega
    | some K => show nd.syn + Disk.St.left K (nd.bytes.length - nd.syn) ≤ _; unfold Disk.St.left; omega
  refine ⟨Lib.hid fun i' nd' hi' => ?_, Lib.hid ?_, Lib.hid ?_, Lib.hid ?_⟩
  · rw [List.take_succ_eq_append_getElem hql, hp, Disk.cuts_snoc, List.getElem?_modify, Nat.zero_add, List.length_take, Nat.min_eq_left (Nat.le_of_lt hql)] at hi'
    split at hi'
    · rename_i e
      obtain rfl : i = i' := e
      rw [hnd] at hi'
      obtain rfl : Disk.St.cutNd nd keep[q]? = nd' := by simpa using hi'
      refine ⟨fA, x, ?_, ?_⟩
      · rw [hself, hcb.1, hcb.2.1, List.length_take, Nat.min_eq_left hcb.2.2, hx]
      · rw [hcb.1]
        refine (hrow.cut hcb.2.2).same fun b hb => hoth b ?_
        obtain ⟨cur, hcur⟩ := hrow.ty hb
        exact ne_cells hcur h1 (by decide)
    · rename_i e
      have hi2 : (Disk.St.cuts keep 0 (l.take q) s.all)[i']? = some nd' := by simpa using hi'
      have hil' : i' < s.all.length := by have := (List.getElem?_eq_some_iff.1 hi2).1; rwa [Disk.cuts_len] at this
      obtain ⟨A', c', g1, g2⟩ := h2 i' nd' hi2
      refine FileAt.same ⟨A', c', g1, g2⟩ (hoth _ fun e2 => e (H.inj i i' hil hil' e2.symm)) fun b hb => hoth b ?_
      obtain ⟨cur, hcur⟩ := g2.ty hb
      exact ne_cells hcur h1 (by decide)
  · rw [hoth d (ne_cells h3 h1 (by decide))]; exact h3
  · obtain ⟨es, cl, hmp⟩ := folder_map h4
    exact h4.same (hoth bo fun e => NoMap.one h1 bo e _ _ hmp)
  · rw [hW]
    exact ((h5.setCell (.inl ⟨i, hil, rfl⟩) _).setCell (.inl ⟨i, hil, rfl⟩) _).drewN 1
set_option maxRecDepth 100000 in
set_option maxHeartbeats 8000000 in
theorem start_off (dir : Int) (A : Option Addr) (n c : Nat) (keep : List Int) (S : Blocks) (HA : Hid (DiskAt w F d s)) (hf : Hid (Disk.Fine s)) (hoff : s.on = false) (hn : Hid (n = keep.length)) (hl : Hid (SliceAt (Rep.int .i64) w S A c keep)) (hS : Hid (∀ b, S b → b < w.heap.size ∧ ¬ F b)) (_hnb : n ≤ 1099511627776) (hrl : s.row.length ≤ 1099511627776) :
    Calls Tryz.prog 43 #[.pointer (some ⟨d, 0, none⟩), .int .i64 dir, .slice A n c] w fun e w' => e = .returned (.tuple #[]) ∧ DiskAt w' (grow F w w') d (s.start dir keep) ∧ Only F w w' := by
  obtain ⟨loc, blk, bn, bo, rowv, pA, pC, hB⟩ := HA.out
  obtain ⟨rA, rn, rc, rfl, hrn, hrc, hrm⟩ := hB.row.form
  have H := Lib.hid hB
  have c0 := hB.cell 0 _ rfl
  have c1 := hB.cell 1 _ rfl
  have c2 := hB.cell 2 _ rfl
  have c3 := hB.cell 3 _ rfl
  have c4 := hB.cell 4 _ rfl
  rw [hoff] at c4
  have f0 := hB.frozen 0
  have hdl := hB.lt d hB.Fd
  have hrn1 : rn ≤ 1099511627776 := by rw [hrn.out]; exact hrl
  have hnc : n ≤ c := by rw [hn.out]; exact hl.out.len
  have hcm := hl.out.max
  have HOFF := Lib.hid hoff
  obtain ⟨kk, hkk⟩ : ∃ kk, kk = Disk.St.left dir rn := ⟨_, rfl⟩
  have hmin : min (max dir 0) (rn : Int) = (kk : Int) := by rw [hkk]; unfold Disk.St.left; omega
  have hkr : kk ≤ rn := by rw [hkk]; unfold Disk.St.left; omega
  have hmax : max (kk : Int) 0 = (kk : Int) := by omega
  have HKK := Lib.hid hkk
  clear hB hoff hkk
  go_enter Tryz.func43, Tryz.ntmps43
  go_wp2_with (go_at_call 84; refine (ours_d c3).mono ?_; rintro e w1 ⟨rfl, rfl⟩)
  go_quiet (fail)
  generalize hW : World.drewN _ _ = w1
  have HD1 : Hid (w1.heap[d]? = some (.cells #[.map (some bo), .map (some bo), .slice rA rn rc, .bool true, .bool false, .int .i64 s.room, .slice pA s.plan.length pC, .int .i64 s.tries, .int .i64 s.done] 40 (0, 0))) := Lib.hid (by rw [← hW]; simp [World.setCell, World.drewN, Array.getElem?_modify, H.out.hd, HOFF.out])
  have HO1 : Hid (Only (fun x => x = d ∨ x = bo) w w1) := Lib.hid (by rw [← hW]; exact (Only.setCell (Only.refl (fun x => x = d ∨ x = bo) w) (.inl (.inl rfl)) _).drewN _)
  have HF1 : Hid (Fol w1 bo s.old.length s.old loc) := Lib.hid (by
    rw [← hW]
    refine H.out.old.same (Below.heap_setCell w _ _ bo fun e => ?_)
    obtain ⟨es, cl, hm⟩ := folder_map H.out.old
    exact NoMap.one H.out.hd bo e _ _ hm)
  clear hW hmin c0 c1 c2 c3 c4 f0
  go_wp2_with fail
  go_loopg [7, 46] kk (fun q _ i wr => ∃ (j nm : Nat), q = kk - j ∧ j ≤ kk ∧ i = .int .i64 j ∧ Hid (nm ≤ s.old.length + j) ∧ Hid (Fol wr bo nm ((s.row.take j).foldl Disk.behind s.old) loc) ∧ Hid (wr.heap[d]? = some (.cells #[.map (some bo), .map (some bo), .slice rA rn rc, .bool true, .bool false, .int .i64 s.room, .slice pA s.plan.length pC, .int .i64 s.tries, .int .i64 s.done] 40 (0, 0))) ∧ Hid (Only (fun x => x = d ∨ x = bo) w wr))
  case atStart => exact ⟨0, _, by omega, by omega, rfl, Lib.hid (by omega), HF1, HD1, HO1⟩
  case round =>
    obtain ⟨j, nm, rfl, hj, rfl, HNM, HF, HD, HO⟩ := hrel
    have c0 : wr.cell? ⟨d, 0, none⟩ = some (.map (some bo)) := (cell_of_row wr d 0 _ _ (0, 0) HD.out).trans rfl
    by_cases hjk : j < kk
    · have hjr : j < s.row.length := by have := hrn.out; omega
      obtain ⟨es, cl, hmp⟩ := folder_map H.out.old
      have hrow := H.out.row_o HO.out ((Other.one H.out.hd (by decide)).or (Other.map hmp _))
      obtain ⟨A9, c9, he9, hsl⟩ := hrow.slice
      simp only [Value.slice.injEq] at he9
      obtain ⟨rfl, -, rfl⟩ := he9
      obtain ⟨g, o, cs, rfl, -, hc, rfl, hs1, hs2⟩ := hsl.at_ hjr
      obtain ⟨cg, hcg⟩ : ∃ cg, s.row[j] = cg := ⟨_, rfl⟩
      rw [hcg] at hc hs1 hs2
      obtain ⟨k1, k2, k3⟩ := hc.three
      rw [show (Rep.chg loc).n = 3 from rfl] at k1 k2 k3
      have hsd := Lib.hid (hf.out.good.names cg (by rw [← hcg]; exact List.getElem_mem hjr))
      have HCG := Lib.hid hcg
      have hdr : d < wr.heap.size := (Array.getElem?_eq_some_iff.1 HD.out).1
      have hgo := fun (W : World) (hF : Fol W bo nm ((s.row.take j).foldl Disk.behind s.old) loc) => goes_any cg bo nm _ loc W hF (hf.out.good.old.fold _) (by have := HNM.out; have := hf.out.oldL; omega) hs1 hs2 hsd.out
      obtain ⟨x1, hx1⟩ : ∃ x, sv cg.src = .string x := ⟨_, rfl⟩
      obtain ⟨x2, hx2⟩ : ∃ x, sv cg.dst = .string x := ⟨_, rfl⟩
      obtain ⟨x3, hx3⟩ : ∃ x, ptrTo loc cg = .pointer x := ⟨_, rfl⟩
      rw [hx1, hx2, hx3] at hgo
      rw [hx1] at k1
      rw [hx2] at k2
      rw [hx3] at k3
      have HGO := Lib.hid hgo
      clear hc hrow hsl hcg hgo hx1 hx2 hx3
      go_wp2_with fail
      obtain ⟨w3, hw3⟩ : ∃ W, W = wr.alloc (.cells #[.string x1, .string x2, .pointer x3] 121) := ⟨_, rfl⟩
      have hb3 : Hid (Below wr.heap.size wr w3) := Lib.hid (by rw [hw3]; exact Below.alloc (Below.refl _ _) (Nat.le_refl _) _)
      have hx3 : Hid (w3.heap[wr.heap.size]? = some (.cells #[.string x1, .string x2, .pointer x3] 121 (0, 0))) := Lib.hid (by rw [hw3]; exact heap_alloc_new wr _)
      have hf3 : Hid (Fol w3 bo nm ((s.row.take j).foldl Disk.behind s.old) loc) := Lib.hid (HF.out.same (hb3.out.block _ HF.out.lt))
      have c30 : w3.cell? ⟨d, 0, none⟩ = some (.map (some bo)) := (hb3.out.cell (p := ⟨d, 0, none⟩) hdr).trans c0
      have b0 : w3.cell? ⟨wr.heap.size, 0, none⟩ = some (.string x1) := (cell_of_row w3 _ 0 _ _ (0, 0) hx3.out).trans rfl
      have b1 : w3.cell? ⟨wr.heap.size, 1, none⟩ = some (.string x2) := (cell_of_row w3 _ 1 _ _ (0, 0) hx3.out).trans rfl
      have b2 : w3.cell? ⟨wr.heap.size, 2, none⟩ = some (.pointer x3) := (cell_of_row w3 _ 2 _ _ (0, 0) hx3.out).trans rfl
      rw [← hw3]
      clear hw3 c0 k1 k2 k3
      go_still_tail 6, (by kernel_rfl)
      go_wp2_with fail
      refine (HGO.out w3.drew (hf3.out.same (w' := w3.drew) rfl)).mono ?_
      rintro e w4 ⟨rfl, ⟨nm2, hnm2, hF4⟩, hO4⟩
      have HF4 := Lib.hid hF4
      have HO4 : Hid (Only (fun x => x = bo) w3 w4) := Lib.hid ⟨hO4.os, hO4.tape, hO4.output, hO4.size, hO4.block⟩
      have HNM2 := Lib.hid hnm2
      clear hF4 hO4 c30 b0 b1 b2 hnm2
      go_wp2_with fail
      go_roundg (kk - (j + 1))
      case measure => omega
      case rel =>
        have htk : s.row.take (j + 1) = s.row.take j ++ [cg] := by rw [List.take_succ_eq_append_getElem hjr, HCG.out]
        have hdo : d ≠ bo := fun e => NoMap.one H.out.hd bo e.symm _ _ hmp
        refine ⟨j + 1, nm2, by omega, by omega, by go_num, Lib.hid (by have := HNM.out; have := HNM2.out; omega), Lib.hid ?_, Lib.hid ?_, Lib.hid ((HO.out.trans (Only.of_below hb3.out nob) fun x hx => hx.elim).trans HO4.out fun x hx => .inl (.inr hx))⟩
        · rw [htk, List.foldl_append]; exact HF4.out
        · rw [HO4.out.block d (Nat.lt_of_lt_of_le hdr hb3.out.size) hdo, hb3.out.block d hdr]; exact HD.out
    · obtain rfl : j = kk := by omega
      obtain ⟨l, hle⟩ : ∃ l, l = (s.row.take j).foldl Disk.behind s.old := ⟨_, rfl⟩
      rw [← hle] at HF
      have hlr : Hid (Disk.Rising l) := Lib.hid (by rw [hle]; exact hf.out.good.old.fold _)
      have hl64 : l.length ≤ 64 := by rw [hle]; exact hf.out.cap j
      have hli : Hid (∀ i ∈ Disk.ids l, i < s.all.length) := Lib.hid (by rw [hle]; exact hf.out.good.have_ j)
      have hlnd : Hid ((Disk.ids l).Nodup) := Lib.hid (by rw [hle]; exact hf.out.good.nodup j)
      have hstart : Hid (s.start dir keep = { s with now := l, old := l, row := [], on := true, all := Disk.St.cuts keep 0 l s.all }) := Lib.hid (by
        have h1 : Disk.St.left dir s.row.length = j := by rw [HKK.out, ← hrn.out]
        unfold Disk.St.start
        rw [HOFF.out, if_neg (by decide), h1, ← hle])
      clear hle
      have hdr : d < wr.heap.size := (Array.getElem?_eq_some_iff.1 HD.out).1
      go_wp2_with fail
      refine (names_any d bo nm l loc wr HF hlr c0 hdr (by omega)).mono ?_
      rintro e w5 ⟨nA, nn, nc, rfl, hnn, hnnc, hncm, hnown, hb5⟩
      have HNO := Lib.hid hnown
      have HB5 := Lib.hid hb5
      have hnn64 : nn ≤ 64 := by rw [hnn.out]; simp [Disk.keys]; exact hl64
      clear hnown hb5 c0
      go_wp2_with fail
      have hlen0 : nn = l.length := by rw [hnn.out]; simp [Disk.keys]
      have HLEN := Lib.hid hlen0
      have hO5 : Hid (Only (startG d bo loc s.all.length) w w5) := Lib.hid ((HO.out.mono (fun x hx => hx.elim .inl fun h => .inr (.inl h))).trans (Only.of_below HB5.out nob) fun x hx => hx.elim)
      have hfl5 : Hid (∀ i nd, (Disk.St.cuts keep 0 (l.take 0) s.all)[i]? = some nd → FileAt w5 (loc i) (blk i) nd) := Lib.hid (by
        obtain ⟨es, cl, hmp⟩ := folder_map H.out.old
        have hG : Other w (fun x => x = d ∨ x = bo) 84 := (Other.one H.out.hd (by decide)).or (Other.map hmp _)
        have hG' : Other w (fun x => x = d ∨ x = bo) 5 := (Other.one H.out.hd (by decide)).or (Other.map hmp _)
        have h1 := H.out.files_o HO.out hG hG'
        intro i nd hi
        have hi' : s.all[i]? = some nd := by simpa [Disk.St.cuts] using hi
        have h2 := h1 i nd hi'
        obtain ⟨A', c', g1, g2⟩ := h2
        exact FileAt.same ⟨A', c', g1, g2⟩ (HB5.out.block _ (Array.getElem?_eq_some_iff.1 g1).1) fun x hx => HB5.out.block x (g2.lt hx))
      have HD5 := Lib.hid ((HB5.out.block d hdr).trans HD.out)
      have HF5 := Lib.hid (HF.out.same (HB5.out.block bo HF.out.lt))
      obtain ⟨A9, c9, he9, hsl9⟩ := HNO.out.slice
      simp only [Value.slice.injEq] at he9
      obtain ⟨rfl, -, rfl⟩ := he9
      have HSL := Lib.hid (hsl9.up (S' := fun b => wr.heap.size ≤ b ∧ b < w5.heap.size) fun b hb => by
        rcases hb with ⟨h0, h, -⟩ | h
        · exact ⟨h0, h⟩
        · exact h.elim)
      clear hsl9 hlen0
      have hwr : Hid (w.heap.size ≤ wr.heap.size) := Lib.hid HO.out.size
      obtain ⟨w6, rfl⟩ : ∃ W : World, W = wr := ⟨_, rfl⟩
      clear HF HD HO
      go_loopg [8, 9, 10, 11, 63] nn (fun q _ _ _ _ i wr => ∃ j : Nat, q = nn - j ∧ j ≤ nn ∧ i = .int .i64 j ∧ Hid (∀ i nd, (Disk.St.cuts keep 0 (l.take j) s.all)[i]? = some nd → FileAt wr (loc i) (blk i) nd) ∧ Hid (wr.heap[d]? = some (.cells #[.map (some bo), .map (some bo), .slice rA rn rc, .bool true, .bool false, .int .i64 s.room, .slice pA s.plan.length pC, .int .i64 s.tries, .int .i64 s.done] 40 (0, 0))) ∧ Hid (Fol wr bo nm l loc) ∧ Hid (Only (fun x => ∃ i, i < s.all.length ∧ x = loc i) w5 wr))
      case atStart => exact ⟨0, by omega, by omega, rfl, hfl5, HD5, HF5, Lib.hid (Only.refl _ _)⟩
      case round =>
        obtain ⟨q, rfl, hq, rfl, HFL, HD, HF, HO⟩ := hrel
        have HG : Hid (Only (startG d bo loc s.all.length) w wr) := Lib.hid (hO5.out.trans HO.out fun x hx => .inl (.inr (.inr hx)))
        have c0 : wr.cell? ⟨d, 0, none⟩ = some (.map (some bo)) := (cell_of_row wr d 0 _ _ (0, 0) HD.out).trans rfl
        by_cases hqn : q < nn
        · have hql : q < l.length := by rw [← HLEN.out]; exact hqn
          obtain ⟨p, hp⟩ : ∃ p, l[q] = p := ⟨_, rfl⟩
          obtain ⟨k, i⟩ := p
          have hfind := Disk.find_of_mem hlr.out (k := k) (i := i) (by rw [← hp]; exact List.getElem_mem hql)
          have hil : i < s.all.length := hli.out i (List.mem_map.2 ⟨_, Disk.mem_of_find hfind, rfl⟩)
          obtain ⟨g, o, cs, rfl, hg, hc, hcs, hks⟩ := HSL.out.at_ (i := q) (by rw [List.length_map, ← hnn.out]; exact hqn)
          have hkj : ((Disk.keys l).map ba)[q]'(by rw [List.length_map, ← hnn.out]; exact hqn) = ba k := by simp [Disk.keys, hp]
          rw [hkj] at hcs hks
          subst hcs
          have hgne : ∀ i, i < s.all.length → g ≠ loc i := fun i hi e => by have := H.out.lt _ (H.out.Fl i hi); have := hwr.out; have := hg.1; omega
          have hcw := (hc.keep (S := fun b => b = g) rfl fun b hb => by subst hb; exact HO.out.block _ hg.2 fun ⟨i, hi, e⟩ => hgne i hi e).one
          rw [show Rep.str.n = 1 from rfl, Nat.mul_one] at hcw
          have hlk := HF.out.look (t := 34) (e := 80) Tryz.underlying9 Tryz.underlying34 (Tryz.zeroValue80 _) (ba k) hks
          rw [show (ba k).data.toList = k from rfl, show Disk.ptrOf l loc k = .pointer (some ⟨loc i, 0, none⟩) from by simp [Disk.ptrOf, hfind]] at hlk
          have hcl : (Disk.St.cuts keep 0 (l.take q) s.all).length = s.all.length := Disk.cuts_len keep _ _ _
          obtain ⟨nd, hnd⟩ : ∃ nd, (Disk.St.cuts keep 0 (l.take q) s.all)[i]? = some nd := ⟨_, List.getElem?_eq_getElem (by rw [hcl]; exact hil)⟩
          have hni : i ∉ Disk.ids (l.take q) := by
            intro hm
            have h1 : (Disk.ids l) = Disk.ids (l.take q) ++ Disk.ids (l.drop q) := by unfold Disk.ids; rw [← List.map_append, List.take_append_drop]
            have h2 := hlnd.out
            rw [h1, List.nodup_append] at h2
            refine h2.2.2 i hm i ?_ rfl
            rw [List.drop_eq_getElem_cons hql, hp]
            simp [Disk.ids]
          have hnd0 : s.all[i]? = some nd := by rw [← Disk.cuts_other keep (l.take q) 0 s.all i hni]; exact hnd
          obtain ⟨fA, fc, hh, hrow⟩ := HFL.out i nd hnd
          obtain ⟨m, hm⟩ : ∃ m, m = nd.bytes.length := ⟨_, rfl⟩
          obtain ⟨sy, hsy⟩ : ∃ x, x = nd.syn := ⟨_, rfl⟩
          rw [← hm, ← hsy] at hh
          have hm24 : m ≤ 16777216 := by rw [hm]; exact hf.out.big nd (List.mem_of_getElem? hnd0)
          have hsm : sy ≤ m := by rw [hm, hsy]; exact hf.out.good.sync nd (List.mem_of_getElem? hnd0)
          have hmc : m ≤ fc := by rw [hm]; exact hrow.len.1
          have k0 : wr.cell? ⟨loc i, 0, none⟩ = some (.slice fA m fc) := (cell_of_row wr _ 0 _ _ (0, 0) hh).trans rfl
          have k1 : wr.cell? ⟨loc i, 1, none⟩ = some (.int .i64 sy) := (cell_of_row wr _ 1 _ _ (0, 0) hh).trans rfl
          have kf : ∀ o, wr.frozen? ⟨loc i, o, none⟩ = false := fun o => by simp [World.frozen?, hh]
          have HH := Lib.hid hh
          have HROW := Lib.hid hrow
          have HM := Lib.hid hm
          have HSY := Lib.hid hsy
          have HND := Lib.hid hnd
          have HND0 := Lib.hid hnd0
          have HP := Lib.hid hp
          obtain ⟨x, hx⟩ : ∃ x, x = (Disk.St.cutNd nd keep[q]?).syn := ⟨_, rfl⟩
          have HX := Lib.hid hx
          clear hh hrow hm hsy hnd hnd0 hc hg hfind hkj hp hcl hni hgne
          by_cases hqk : q < n
          · have hqk' : q < keep.length := by rw [← hn.out]; exact hqk
            obtain ⟨K, hK⟩ : ∃ K, K = keep[q] := ⟨_, rfl⟩
            have hKq : keep[q]? = some K := by rw [hK]; exact List.getElem?_eq_getElem hqk'
            have hSw : SliceAt (Rep.int .i64) wr S A c keep := hl.out.keep (S' := S) (fun _ h => h) (HG.out.same fun b hb => ⟨(hS.out b hb).1, fun e => (hS.out b hb).2 (startG_F H.out b e)⟩)
            obtain ⟨g4, o4, cs4, rfl, -, hc4, hcs4, -⟩ := hSw.at_ hqk'
            subst hcs4
            have hcK := hc4.one
            rw [show (Rep.int .i64).n = 1 from rfl, Nat.mul_one, ← hK] at hcK
            obtain ⟨nn2, hnn2⟩ : ∃ a, a = Disk.St.left K (m - sy) := ⟨_, rfl⟩
            have hq2 : min (max K 0) ((m : Int) - (sy : Int)) = (nn2 : Int) := by rw [hnn2]; unfold Disk.St.left; omega
            have hle2 : nn2 ≤ m - sy := by rw [hnn2]; unfold Disk.St.left; omega
            have hxv : x = sy + nn2 := by rw [hx, hKq]; simp only [Disk.St.cutNd]; rw [hnn2, HM.out, HSY.out]
            have hw1 : IntKind.i64.wrap ((m : Int) - (sy : Int)) = (m : Int) - (sy : Int) := IntWalk.i64_in _ (by omega)
            have hw2 : IntKind.i64.wrap ((sy : Int) + (nn2 : Int)) = (x : Int) := by rw [hxv, IntWalk.i64_in _ (by omega)]; omega
            have hsl2 := fun (W : World) => run_slice_tight (P := Tryz.prog) (w := W) stBytes fA m fc x (by omega)
            have hin : (q : Int) < (n : Int) := by omega
            have hi0 : (0 : Int) ≤ (q : Int) := by omega
            have hxm : x ≤ m := by omega
            clear hSw hc4 hK hKq hnn2 hxv hx
            go_wp2_with fail
            go_quiet (fail)
            generalize hWa : World.drewN _ _ = wa
            obtain ⟨HA1, HA2, HA3, HA4, HA5, HROWa, j0, j1, jf⟩ : Hid (wa.heap[loc i]? = some (.cells #[.slice fA m fc, .int .i64 sy, .bool nd.bad] 84 (0, 0))) ∧ Hid (∀ i nd, (Disk.St.cuts keep 0 (l.take q) s.all)[i]? = some nd → FileAt wa (loc i) (blk i) nd) ∧ Hid (wa.heap[d]? = some (.cells #[.map (some bo), .map (some bo), .slice rA rn rc, .bool true, .bool false, .int .i64 s.room, .slice pA s.plan.length pC, .int .i64 s.tries, .int .i64 s.done] 40 (0, 0))) ∧ Hid (Fol wa bo nm l loc) ∧ Hid (Only (fun x => ∃ i, i < s.all.length ∧ x = loc i) w5 wa) ∧ Hid (RowT 5 wa fA fc (blk i) nd.bytes) ∧ wa.cell? ⟨loc i, 0, none⟩ = some (.slice fA m fc) ∧ wa.cell? ⟨loc i, 1, none⟩ = some (.int .i64 sy) ∧ (∀ o, wa.frozen? ⟨loc i, o, none⟩ = false) := by
              subst hWa
              exact ⟨HH, HFL, HD, HF, Lib.hid (HO.out.drewN _), HROW, k0, k1, kf⟩
            clear hWa k0 k1 kf hcK hcw hlk c0 hq2 hw1
            go_wp2_with fail
            go_still_tail 20, (by kernel_rfl)
            go_wp2_with fail
            go_roundg (nn - (q + 1))
            case measure => omega
            case rel =>
              obtain ⟨r1, r2, r3, r4⟩ := start_step H.out hql HP.out hil HND.out (by rw [← HM.out, ← HSY.out]; exact hsm) HX.out HM.out HA1.out HROWa.out HA2.out HA3.out HA4.out HA5.out
              exact ⟨q + 1, by omega, by omega, by go_num, r1, r2, r3, r4⟩
          · have hkn : keep[q]? = none := List.getElem?_eq_none (by rw [← hn.out]; omega)
            have hxv : x = sy := by rw [hx, hkn]; simp only [Disk.St.cutNd]; rw [HSY.out]; rfl
            subst hxv
            have hw2 : IntKind.i64.wrap (x : Int) = (x : Int) := IntWalk.i64_in _ (by omega)
            have hw3 : IntKind.i64.wrap ((x : Int) + 0) = (x : Int) := by rw [Int.add_zero]; exact hw2
            have hsl2 := fun (W : World) => run_slice_tight (P := Tryz.prog) (w := W) stBytes fA m fc x (by omega)
            clear hx hkn
            go_wp2_with fail
            go_still_tail 20, (by kernel_rfl)
            go_wp2_with fail
            go_roundg (nn - (q + 1))
            case measure => omega
            case rel =>
              obtain ⟨r1, r2, r3, r4⟩ := start_step H.out hql HP.out hil HND.out (by rw [← HM.out, ← HSY.out]; exact hsm) HX.out HM.out HH.out HROW.out HFL.out HD.out HF.out HO.out
              exact ⟨q + 1, by omega, by omega, by go_num, r1, r2, r3, r4⟩
        · obtain rfl : q = nn := by omega
          have hall : Hid (∀ i nd, (Disk.St.cuts keep 0 l s.all)[i]? = some nd → FileAt wr (loc i) (blk i) nd) := Lib.hid (by
            have := HFL.out
            rwa [HLEN.out, List.take_length] at this)
          go_wp2_with fail
          refine (settled_any d bo nm l loc _ wr HF hlr (by omega) HD (Lib.hid rfl) (Lib.hid (by simp))).mono ?_
          rintro e w7 ⟨rfl, b2, n2, hb2, hf2, hd2, ho2⟩
          have hd2' : w7.heap[d]? = some (.cells #[.map (some bo), .map (some b2), .slice none 0 0, .bool true, .bool false, .int .i64 s.room, .slice pA s.plan.length pC, .int .i64 s.tries, .int .i64 s.done] 40 (0, 0)) := hd2.trans rfl
          have HD7 := Lib.hid hd2'
          have HO7 := Lib.hid ho2
          have HF7 := Lib.hid hf2
          have HB7 := Lib.hid hb2
          have c74 : w7.cell? ⟨d, 4, none⟩ = some (.bool false) := (cell_of_row w7 d 4 _ _ (0, 0) hd2').trans rfl
          have f74 : w7.frozen? ⟨d, 4, none⟩ = false := by simp [World.frozen?, hd2']
          clear hb2 hf2 hd2 ho2 hd2' c0
          go_wp2_with fail
          go_end0
          obtain ⟨es, cl, hmp⟩ := folder_map HF.out
          obtain ⟨es2, cl2, hmp2⟩ := folder_map HF7.out
          have ho8 : Only (startG d bo loc s.all.length) w (w7.setCell ⟨d, 4, none⟩ (.bool true)) := (HG.out.trans HO7.out fun x hx => .inl (.inl hx)).setCell (.inl (.inl rfl)) _
          have hoth : ∀ b, b ≠ d → b < wr.heap.size → (w7.setCell ⟨d, 4, none⟩ (.bool true)).heap[b]? = wr.heap[b]? := fun b hb hlt => (Below.heap_setCell w7 ⟨d, 4, none⟩ _ b hb).trans (HO7.out.block b hlt hb)
          have hst := H.out.started (w' := w7.setCell ⟨d, 4, none⟩ (.bool true)) l (Disk.St.cuts keep 0 l s.all) (Disk.cuts_len keep _ _ _) (n := nm) (n2 := n2) (b2 := b2) ho8 (by simp [World.setCell, Array.getElem?_modify, HD7.out])
            (HF.out.same (hoth bo (fun e => NoMap.one HD.out bo e _ _ hmp) HF.out.lt)) (HF7.out.same (Below.heap_setCell w7 ⟨d, 4, none⟩ _ b2 fun e => NoMap.one HD7.out b2 e _ _ hmp2)) (Nat.le_trans HG.out.size HB7.out)
            (fun i nd hi => by
              obtain ⟨A', c', g1, g2⟩ := hall.out i nd hi
              exact FileAt.same ⟨A', c', g1, g2⟩ (hoth _ (ne_cells g1 HD.out (by decide)) (Array.getElem?_eq_some_iff.1 g1).1) fun b hb => by
                obtain ⟨cur, hcur⟩ := g2.ty hb
                exact hoth b (ne_cells hcur HD.out (by decide)) (g2.lt hb))
          refine ⟨rfl, ?_, ho8.mono (startG_F H.out)⟩
          rw [hstart.out]
          exact hst.at_
end
end Go.Proofs.YtncpeogkccjmcaaGreatDoor
