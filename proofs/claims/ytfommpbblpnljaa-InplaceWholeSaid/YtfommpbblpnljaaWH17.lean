/- Texts that lead to the claim, one behind the other: The files of a disk, in the order of their names: the walk of (disk.Disk).Files. Condition: none. -/
import Derived.Test.YtfommpbblpnljaaWH15
import Derived.Test.YtfommpbblpnljaaWH16
import Derived.Deep.LoopGhost
namespace Go.Proofs.Ytfommpbblpnljaa
open Go.RowKit Go.ChangeShapes Go.WideShapes Go.Deep

/-- A file as it is told: its name, what it is; the value of its bytes beside it. -/
abbrev TF := (Disk.Nm × Disk.Nd) × Value
def Rep.fileV : Rep TF where
  n := 4
  is := fun _ _ cs x => cs = [sv x.1.1, x.2, .int .i64 x.1.2.syn, .bool x.1.2.bad] ∧ x.1.1.length ≤ maxLen ∧ x.1.2.syn ≤ 16777216 ∧ x.2.oneCell' = true
  size := by rintro _ _ _ _ ⟨rfl, _⟩; rfl
  keep := by rintro _ _ _ _ _ _ ⟨rfl, h⟩ _ _; exact ⟨rfl, h⟩
  one := by rintro _ _ _ x ⟨rfl, _, _, h⟩; simp [Value.oneCell', sv]; exact h
theorem stFile : SliceType Try.prog 37 61 4 56 := SliceType.mk' (z := .agg #[.string ⟨#[]⟩, .slice none 0 0, .int .i64 0, .bool false]) Try.underlying37 (by kernel_rfl) rfl (by omega)
/-- Bytes' rows of the call's own, side by side. -/
structure RowsB (w : World) (base : Nat) (l : List TF) : Prop where
  own : ∀ x ∈ l, Own Rep.byte 5 w base nob x.2 x.1.2.bytes
  apart : l.Pairwise fun x y => ∀ b, x.2.ownBlock = some b → y.2.ownBlock ≠ some b
/-- What Files leaves: new memory. -/
def FilesOwn (w : World) (base : Nat) (v : Value) (l : List (Disk.Nm × Disk.Nd)) : Prop := ∃ vs, vs.map (·.1) = l ∧ Own Rep.fileV 61 w base nob v vs ∧ RowsB w base vs
def FilesPost (w : World) (l : List (Disk.Nm × Disk.Nd)) (e : Ending) (w' : World) : Prop :=
  ∃ A n c, e = .returned (.slice A n c) ∧ Hid (n = l.length) ∧ n ≤ c ∧ c ≤ 9223372036854775807 ∧ FilesOwn w' w.heap.size (.slice A n c) l ∧ Below w.heap.size w w'
theorem RowsB.far {w w' : World} {base : Nat} {l : List TF} (h : RowsB w base l) (hb : Below w.heap.size w w') : RowsB w' base l := ⟨fun x hx => (h.own x hx).far hb, h.apart⟩
theorem RowsB.grown {w w' : World} {base : Nat} {l : List TF} (h : RowsB w base l) {row : Option Nat} (hg : w.grownBy w' row) (hr : ∀ b, row = some b → ∀ cs f, w.heap[b]? ≠ some (.cells cs 5 f)) : RowsB w' base l :=
  ⟨fun x hx => (h.own x hx).mono hg (by
    cases e : x.2.ownBlock with
    | none => exact .inl rfl
    | some b =>
      right
      intro e2
      obtain ⟨cur, hc⟩ := (h.own x hx).content e
      exact hr b e2.symm _ _ hc) fun _ h => h.elim, h.apart⟩
theorem RowsB.snoc {w : World} {base B2 : Nat} {l : List TF} {x : TF} (h : RowsB w base l) (hx : Own Rep.byte 5 w B2 nob x.2 x.1.2.bytes) (hB : base ≤ B2) (hl : ∀ y ∈ l, ∀ b, y.2.ownBlock = some b → b < B2) : RowsB w base (l ++ [x]) := by
  refine ⟨fun y hy => ?_, ?_⟩
  · rcases List.mem_append.1 hy with hy | hy
    · exact h.own y hy
    · rw [List.mem_singleton.1 hy]; exact hx.low hB
  · rw [List.pairwise_append]
    refine ⟨h.apart, by simp, fun y hy z hz b hb e => ?_⟩
    rw [List.mem_singleton.1 hz] at e
    have := hl y hy b hb
    have := (hx.block_lt e).1
    omega
section
variable {w : World} {F : Blocks} {d : Nat} {s : Disk.St}
theorem eClone : ∀ args w, (callFunc 45 args).run Try.prog w = .ok (.enter 45 args) w := enters_of Try.func45 (by kernel_rfl) rfl
theorem files_step {w1 wr w10 w3 : World} {k : Disk.Nm} {nd : Disk.Nd} {vs : List TF} {A3 A' : Option Addr} {n3 c3 m c' : Nat} {v3 : Value} (hv : Own Rep.fileV 61 wr w1.heap.size nob (.slice A3 n3 c3) vs) (hrb : RowsB wr w1.heap.size vs) (hb : Below w1.heap.size w1 wr)
    (hown : Own Rep.byte 5 w10 wr.heap.size nob (.slice A' m c') nd.bytes) (hb10 : Below wr.heap.size wr w10) (ob : Obj) (hg3 : (w10.alloc ob).grownBy w3 (Value.slice A3 n3 c3).ownBlock) (hown3 : Own Rep.fileV 61 w3 w1.heap.size nob v3 (vs ++ [((k, nd), .slice A' m c')])) :
    ∃ A5 n5 c5 vv, v3 = .slice A5 n5 c5 ∧ n5 ≤ c5 ∧ c5 ≤ 9223372036854775807 ∧ Hid (n5 = (vs ++ [((k, nd), vv)]).length) ∧ Hid (Own Rep.fileV 61 w3 w1.heap.size nob (.slice A5 n5 c5) (vs ++ [((k, nd), vv)])) ∧ Hid (RowsB w3 w1.heap.size (vs ++ [((k, nd), vv)])) ∧ Hid (Below w1.heap.size w1 w3) := by
  obtain ⟨A5, n5, c5, rfl, hn5, hnc5, hcm5⟩ := hown3.form
  have hs1 := hb.size
  have hs2 := hb10.size
  refine ⟨A5, n5, c5, .slice A' m c', rfl, hnc5, hcm5, hn5, Lib.hid hown3, Lib.hid ?_, Lib.hid ?_⟩
  · have h1 := (hrb.far hb10).snoc (x := ((k, nd), .slice A' m c')) hown hs1 (fun y hy b hb => (hrb.own y hy).block_lt hb |>.2)
    refine (h1.far (Below.alloc (Below.refl _ w10) (Nat.le_refl _) ob)).grown hg3 fun b hb cs f hc => ?_
    obtain ⟨cur, hcur⟩ := ((hv.far hb10).alloc ob).content hb
    rw [hcur] at hc
    injection hc with hc
    injection hc with _ e
    exact absurd e (by decide)
  · exact below_own ((hb.trans (hb10.mono hs1)).alloc (Nat.le_trans hs1 hs2) _) ((hv.far hb10).alloc ob) hg3 (by simp; omega)
set_option maxRecDepth 100000 in
set_option maxHeartbeats 4000000 in
theorem files_any (HA : Hid (DiskAt w F d s)) (hf : Hid (Disk.Fine s)) : Calls Try.prog 15 #[.pointer (some ⟨d, 0, none⟩)] w (FilesPost w s.files) := by
  obtain ⟨on, hon⟩ : ∃ b, s.on = b := ⟨_, rfl⟩
  have HN := Lib.hid (diskNames_any HA hf)
  have HON := Lib.hid hon
  clear hon
  go_enter Try.func15, Try.ntmps15
  go_wp2_with fail
  refine HN.out.mono ?_
  rintro e w1 ⟨A, n, c, rfl, hn, hnc, hcm, hown, hb1⟩
  have HN1 := hn
  have HO1 := Lib.hid hown
  have HB1 := Lib.hid hb1
  clear hown hb1 hn
  have hnl : n ≤ 64 := by
    rw [HN1.out]
    unfold Disk.St.names
    split
    · simp [Disk.keys]; exact hf.out.nowL
    · simp
  go_wp2_with fail
  cases on
  · have h0 : n = 0 := by rw [HN1.out]; simp [Disk.St.names, HON.out]
    subst h0
    refine wp_loop_rounds 1 ?_
    rw [rounds_succ]
    go_wp2_with fail
    go_ret
    have : s.files = [] := by simp [Disk.St.files, HON.out]
    rw [this]
    exact ⟨none, 0, 0, rfl, Lib.hid rfl, Nat.le_refl _, by omega, ⟨[], rfl, Own.nil _ _ _ _, ⟨by simp, List.Pairwise.nil⟩⟩, HB1.out⟩
  have hNm : s.names = Disk.keys s.now := by simp [Disk.St.names, HON.out]
  rw [hNm] at HN1 HO1
  have hFl : Hid (s.files = s.now.map fun p => (p.1, (s.all[p.2]?).getD ⟨[], 0, false⟩)) := Lib.hid (by simp [Disk.St.files, HON.out])
  have hnow : Hid (n = s.now.length) := Lib.hid (by rw [HN1.out]; simp [Disk.keys])
  obtain ⟨loc, blk, bn, bo, rowv, pA, pC, hB⟩ := HA.out
  have H1 := Lib.hid (hB.far HB1.out)
  obtain ⟨A9, c9, he9, hsl⟩ := HO1.out.slice
  simp only [Value.slice.injEq] at he9
  obtain ⟨rfl, -, rfl⟩ := he9
  have HSL := Lib.hid (hsl.up (S' := fun b => b < w1.heap.size) fun b hb => by
    rcases hb with ⟨-, h, -⟩ | h
    · exact h
    · exact h.elim)
  clear hNm hB hsl
  go_loopg [3, 5, 6, 10] n (fun q v _ _ i wr => ∃ (j : Nat) (A3 : Option Addr) (n3 c3 : Nat) (vs : List TF), q = n - j ∧ j ≤ n ∧ i = .int .i64 j ∧ v = .slice A3 n3 c3 ∧ n3 ≤ c3 ∧ c3 ≤ 9223372036854775807 ∧ Hid (n3 = vs.length) ∧ Hid (vs.map (·.1) = s.files.take j) ∧ Hid (Own Rep.fileV 61 wr w1.heap.size nob (.slice A3 n3 c3) vs) ∧ Hid (RowsB wr w1.heap.size vs) ∧ Hid (Below w1.heap.size w1 wr))
  case atStart => exact ⟨0, none, 0, 0, [], by omega, by omega, rfl, rfl, Nat.le_refl _, by omega, Lib.hid rfl, Lib.hid rfl, Lib.hid (Own.nil _ _ _ _), Lib.hid ⟨by simp, List.Pairwise.nil⟩, Lib.hid (Below.refl _ _)⟩
  case round =>
    obtain ⟨j, A3, n3, c3, vs, rfl, hj, rfl, rfl, hnc3, hcm3, HN3, HVS, HV, HRB, HB⟩ := hrel
    have hvl : Hid (vs.length = j) := Lib.hid (by
      have := congrArg List.length HVS.out
      rw [List.length_map, List.length_take, hFl.out, List.length_map, ← hnow.out] at this
      omega)
    by_cases hjn : j < n
    · have hjl : j < s.now.length := by rw [← hnow.out]; exact hjn
      obtain ⟨p, hp⟩ : ∃ p, s.now[j] = p := ⟨_, rfl⟩
      obtain ⟨k, i⟩ := p
      have hfind := Disk.find_of_mem hf.out.good.nowR (k := k) (i := i) (by rw [← hp]; exact List.getElem_mem hjl)
      have hil : i < s.all.length := hf.out.nowI i (List.mem_map.2 ⟨_, Disk.mem_of_find hfind, rfl⟩)
      obtain ⟨g, o, cs, rfl, hg, hc, hcs, hks⟩ := HSL.out.at_ (i := j) (by rw [List.length_map, ← HN1.out]; exact hjn)
      have hkj : ((Disk.keys s.now).map ba)[j]'(by rw [List.length_map, ← HN1.out]; exact hjn) = ba k := by simp [Disk.keys, hp]
      rw [hkj] at hcs hks
      subst hcs
      have hcw := (hc.below HB.out hg).one
      rw [show Rep.str.n = 1 from rfl, Nat.mul_one] at hcw
      have H2 := Lib.hid (H1.out.far HB.out)
      obtain ⟨nd, hnd⟩ : ∃ nd, s.all[i]? = some nd := ⟨_, List.getElem?_eq_getElem hil⟩
      obtain ⟨A, c, hh, hrow⟩ := H2.out.files i nd hnd
      obtain ⟨m, hm⟩ : ∃ m, m = nd.bytes.length := ⟨_, rfl⟩
      rw [← hm] at hh
      have hm24 : m ≤ 16777216 := by rw [hm]; exact hf.out.big nd (List.mem_of_getElem? hnd)
      have hsy : nd.syn ≤ 16777216 := Nat.le_trans (hf.out.good.sync nd (List.mem_of_getElem? hnd)) (hf.out.big nd (List.mem_of_getElem? hnd))
      have k0 : wr.cell? ⟨loc i, 0, none⟩ = some (.slice A m c) := (cell_of_row wr _ 0 _ _ (0, 0) hh).trans rfl
      have k1 : wr.cell? ⟨loc i, 1, none⟩ = some (.int .i64 nd.syn) := (cell_of_row wr _ 1 _ _ (0, 0) hh).trans rfl
      have k2 : wr.cell? ⟨loc i, 2, none⟩ = some (.bool nd.bad) := (cell_of_row wr _ 2 _ _ (0, 0) hh).trans rfl
      have cd0 := H2.out.cell 0 _ rfl
      have hlk := H2.out.now.look (t := 23) (e := 84) Try.underlying9 Try.underlying23 (Try.zeroValue84 _) (ba k) hks
      rw [show (ba k).data.toList = k from rfl, show Disk.ptrOf s.now loc k = .pointer (some ⟨loc i, 0, none⟩) from by simp [Disk.ptrOf, hfind]] at hlk
      have HCL : Hid (∀ W, Below wr.heap.size wr W → Calls Try.prog 45 #[.slice A m c] W fun e w' => ∃ A' c', e = .returned (.slice A' m c') ∧ m ≤ c' ∧ c' ≤ 9223372036854775807 ∧ Own Rep.byte 5 w' W.heap.size nob (.slice A' m c') nd.bytes ∧ Below W.heap.size W w') := Lib.hid fun W hW => by
        have hrW := hrow.same fun x hx => hW.block x (hrow.lt hx)
        exact cloneBytes A m c nd.bytes W _ (Lib.hid hm) (Lib.hid hrW.slice) (Lib.hid fun x hx => hrW.lt hx.symm) (by omega)
      have hli : loc i < wr.heap.size := (Array.getElem?_eq_some_iff.1 hh).1
      have HM := Lib.hid hm
      have HP := Lib.hid hp
      have HND := Lib.hid hnd
      have HKS : k.length ≤ maxLen := by rw [← ba_size]; exact hks
      clear hh hrow hm hp hnd hc hg hfind hkj
      go_upto_region 6 with fail
      go_region_law (first
        | (refine step_call_law rfl 45 #[.tmp 26] #[32] rfl eClone #[.slice A m c] (by simp [Act.eval]) _ (HCL.out _ ⟨rfl, rfl, rfl, Nat.le_refl _, fun _ _ => rfl⟩) ?_; rintro e w10 ⟨A', c', rfl, h1, h2, hown, hb10⟩; have HOWN := Lib.hid hown; have HB10 : Hid (Below wr.heap.size wr w10) := Lib.hid ⟨hb10.os, hb10.tape, hb10.output, hb10.size, hb10.block⟩; have k11 : w10.cell? ⟨loc i, 1, none⟩ = some (.int .i64 nd.syn) := (HB10.out.cell (p := ⟨loc i, 1, none⟩) hli).trans k1; have k12 : w10.cell? ⟨loc i, 2, none⟩ = some (.bool nd.bad) := (HB10.out.cell (p := ⟨loc i, 2, none⟩) hli).trans k2; clear hown hb10; refine ⟨_, rfl, ?_⟩)
        | (refine step_append_Own rfl (.tmp 21) (.tmp 37) 37 rfl Rep.fileV w1.heap.size 61 56 stFile nob (.slice A3 n3 c3) vs (by simp [Act.eval]) ((HV.out.far HB10.out).alloc _) _ (some ⟨_, 0, none⟩) 1 [((k, nd), .slice A' m c')] (by simp [Act.eval]) (SliceAt.new1 Rep.fileV _ _ _ ((k, nd), .slice A' m c') nob ⟨rfl, HKS, hsy, rfl⟩ (fun _ h => h.elim)) nob (fun _ h => h.elim) (fun _ h => h) (fun _ _ h => h) (by have := hvl.out; simp <;> omega) (by have := hvl.out; simp <;> omega) (by have := HB.out.size; have := HB10.out.size; simp <;> omega) ?_; intro v3 w3 hown3 hg3 hat3; have HOWN3 := Lib.hid hown3; have HG3 := Lib.hid hg3; clear hown3 hg3 hat3))
      all_goals
        obtain ⟨A5, n5, c5, vv, rfl, hnc5, hcm5, HN5, HOWN5, HRB5, HB5⟩ := files_step HV.out HRB.out HB.out HOWN.out HB10.out _ HG3.out HOWN3.out
        go_wp2_with fail
        go_roundg (n - (j + 1))
        case measure => omega
        case rel =>
          have hlast : s.files.take (j + 1) = s.files.take j ++ [(k, nd)] := by
            have hjf : j < s.files.length := by rw [hFl.out, List.length_map]; exact hjl
            rw [List.take_succ_eq_append_getElem hjf]
            congr 1
            simp only [hFl.out, List.getElem_map, HP.out, HND.out, Option.getD_some]
          exact ⟨j + 1, A5, n5, c5, vs ++ [((k, nd), vv)], by omega, by omega, by go_num, rfl, hnc5, hcm5, HN5, Lib.hid (by rw [List.map_append, HVS.out, hlast]; rfl), HOWN5, HRB5, HB5⟩
    · obtain rfl : j = n := by omega
      go_wp2_with fail
      go_ret
      refine ⟨A3, n3, c3, rfl, Lib.hid ?_, hnc3, hcm3, ⟨vs, ?_, HV.out.low HB1.out.size, ⟨fun x hx => (HRB.out.own x hx).low HB1.out.size, HRB.out.apart⟩⟩, HB1.out.trans (HB.out.mono HB1.out.size)⟩
      · rw [HN3.out, hvl.out, hnow.out, hFl.out, List.length_map]
      · rw [HVS.out, hFl.out, List.take_of_length_le (by rw [List.length_map, ← hnow.out]; exact Nat.le_refl _)]
end
end Go.Proofs.Ytfommpbblpnljaa
