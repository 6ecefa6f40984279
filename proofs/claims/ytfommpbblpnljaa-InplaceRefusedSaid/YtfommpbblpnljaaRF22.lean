/- Texts that lead to the claim, one behind the other: The iterator over a disk's temporary names: temps.stale and its closure. Conditions: none. | temps.Stale: the walk. Conditions: none. -/
import Derived.Test.YtfommpbblpnljaaRF21
import Derived.Test.YtfommpbblpnljaaRF15
import Derived.RangeFuncNested
import Derived.RangeFuncBound
import Derived.RangeFuncCalls
import Derived.RangeFuncLeaves
import Derived.Shelf.RegionOpen
import Derived.OwnWalkIn
import Derived.TacticsInMore
import Derived.LoopNIn
import Derived.LoopIn
import Derived.Sort.LoopGhostIn
namespace Go.Proofs.Ytfommpbblpnljaa
open Go.RowKit Go.ChangeShapes Go.WideShapes Go.Deep Go.Shelf
attribute [local go_sem] Oper.semAt_some

/-- A temporary name in memory's reach. -/
abbrev TmpNm := { x : Disk.Nm // Disk.isTmp x = true ∧ x.length ≤ maxLen }
theorem stale_maker (p : Option Addr) (w : World) : Calls Try.prog 60 #[.pointer p] w fun e w' => e = .returned (.func (.func 70) #[] #[.pointer (some ⟨w.heap.size, 0, none⟩)]) ∧ w' = w.alloc (.cells #[.pointer p] 22) := by
  go_enter Try.func60, Try.ntmps60
  go_wp2_with fail
  go_ret
  exact ⟨rfl, rfl⟩
/-- The row of names that the iterator reads between the rounds. -/
def RowK (Prot : World → Nat → Prop) (A : Option Addr) (L : List Disk.Nm) (wr : World) : Prop :=
  ∃ g cur, A = some ⟨g, 0, none⟩ ∧ wr.heap[g]? = some (.cells cur 9 (0, 0)) ∧ (∀ i (h : i < L.length), cur[i]? = some (.string (ba L[i])) ∧ L[i].length ≤ maxLen) ∧ Prot wr g
theorem RowK.of_own {Prot : World → Nat → Prop} {W w1 : World} {A : Option Addr} {n c : Nat} {L : List Disk.Nm} (h : Own Rep.str 9 w1 W.heap.size nob (.slice A n c) (L.map ba)) (h0 : L ≠ []) (hp : ∀ b cs, W.heap.size ≤ b → w1.heap[b]? = some (.cells cs 9 (0, 0)) → Prot w1 b) : RowK Prot A L w1 := by
  have hsz : ∀ i (hi : i < L.length), L[i].length ≤ maxLen := fun i hi => by
    obtain ⟨xs, hx, -, -, hr⟩ := h
    have := (hr i (by simpa using hi)).2
    rw [List.getElem_map, ba_size] at this
    exact this
  have hown := own_strs h
  rcases hown.2 with ⟨hnil, hz⟩ | ⟨g, cap, cur, he, hbase, hb, e1, e2, e3, e4⟩
  · exact absurd (List.eq_nil_of_length_eq_zero (by simpa using hz)) h0
  · simp only [Value.slice.injEq] at he
    obtain ⟨rfl, -, -⟩ := he
    refine ⟨g, cur, rfl, hb, fun i hi => ⟨?_, hsz i hi⟩, hp g cur hbase hb⟩
    rw [Nat.mul_one] at e4
    have h1 : (((L.map ba).map Value.string))[i]? = some (.string (ba L[i])) := by simp [hi]
    rw [← e4, List.getElem?_take, if_pos (by simpa using hi), Array.getElem?_toList] at h1
    exact h1
theorem filt_snoc {L : List Disk.Nm} {j : Nat} (hj : j < L.length) : (L.take (j + 1)).filter Disk.isTmp = (L.take j).filter Disk.isTmp ++ (if Disk.isTmp L[j] then [L[j]] else []) := by
  rw [List.take_succ_eq_append_getElem hj, List.filter_append]
  congr 1
  cases h : Disk.isTmp L[j] <;> simp [h]
theorem filt_yes {L : List Disk.Nm} {j : Nat} (hj : j < L.length) (ht : Disk.isTmp L[j] = true) : (L.take (j + 1)).filter Disk.isTmp = (L.take j).filter Disk.isTmp ++ [L[j]] := by rw [filt_snoc hj, if_pos ht]
theorem filt_pre (L : List Disk.Nm) (j : Nat) : (L.take j).filter Disk.isTmp <+: L.filter Disk.isTmp := by
  conv => rhs; rw [← List.take_append_drop j L, List.filter_append]
  exact List.prefix_append _ _
theorem filt_lt {L : List Disk.Nm} {j : Nat} (hj : j < L.length) (ht : Disk.isTmp L[j] = true) : ((L.take j).filter Disk.isTmp).length < (L.filter Disk.isTmp).length := by
  have h := (filt_pre L (j + 1)).length_le
  rw [filt_snoc hj, if_pos ht, List.length_append] at h
  simp only [List.length_cons, List.length_nil] at h
  omega
set_option maxRecDepth 100000 in
set_option maxHeartbeats 4000000 in
theorem stale_stops (k : Nat) (_hk : 3 ≤ k) (d Bn : Nat) (s : Disk.St) (F : Blocks) (w : World) (HA : Hid (DiskAt w F d s)) (hf : Hid (Disk.Fine s)) (hBn : w.cell? ⟨Bn, 0, none⟩ = some (.pointer (some ⟨d, 0, none⟩))) (hlt : Bn < w.heap.size)
    (Prot : World → Nat → Prop) (hnew : Hid (∀ W W' b cs, Below w.heap.size w W → Below W.heap.size W W' → W.heap.size ≤ b → W'.heap[b]? = some (.cells cs 9 (0, 0)) → Prot W' b)) :
    SeqStopsK Fence.wide k Try.prog 70 #[.pointer (some ⟨Bn, 0, none⟩)] (fun x : TmpNm => #[Value.string (ba x.1)]) (fun W W' => ∀ b, Prot W b → Prot W' b ∧ W'.heap[b]? = W.heap[b]?) (fun xs => xs.map (fun x => x.1) = s.stale) (fun pre => pre.map (fun x => x.1) <+: s.stale) s.stale.length w := fun l J Jx W hW hJ hJx hY h0 => by
  have HN := Lib.hid (diskNames_any (w := W) (Lib.hid (by
    obtain ⟨loc, blk, bn, bo, rowv, pA, pC, hB⟩ := HA.out
    exact (hB.far hW).at_)) hf)
  have c0 : W.cell? ⟨Bn, 0, none⟩ = some (.pointer (some ⟨d, 0, none⟩)) := (hW.cell (p := ⟨Bn, 0, none⟩) hlt).trans hBn
  have HW := Lib.hid hW
  have HJ := Lib.hid hJ
  have HY := Lib.hid hY
  have H0 := Lib.hid h0
  obtain ⟨L, hL⟩ : ∃ L, L = s.names := ⟨_, rfl⟩
  have hst : s.stale = L.filter Disk.isTmp := by rw [hL]; rfl
  have HST := Lib.hid hst
  rw [← hL] at HN
  clear hW hJ hJx hY h0 HA hBn hL hst
  refine callsIn_of_wp Try.func70 rfl trivial ?_ rfl
  simp only [Try.ntmps70, List.size_toArray, List.length_cons, List.length_nil, Nat.reduceAdd, Nat.reduceSub, Array.replicate_succ, Array.replicate_zero, List.push_toArray, List.append_toArray, List.nil_append, List.cons_append]
  gi_wp2_with (refine ⟨trivial, fun _ => by omega, ?_⟩; gi_at_call 26; refine (callsIn_wide.2 HN.out).mono ?_; rintro e w1 ⟨A, n, c, rfl, hn, hnc, hcm, hown, hb⟩; have HB1 := Lib.hid hb; have HO1 := Lib.hid hown; clear hb hown)
  by_cases hn0 : n = 0
  · subst hn0
    have hL0 : L = [] := List.eq_nil_of_length_eq_zero hn.out.symm
    have hJ1 : J [] w1 := HJ.out [] W w1 none H0.out ⟨HB1.out.os, HB1.out.tape, HB1.out.output, HB1.out.size, fun k hk _ => HB1.out.block k hk⟩ (fun r e => by cases e)
    have HJ1 := Lib.hid hJ1
    clear hJ1
    gi_loopg [4, 8] 0 (fun q v4 iv wr => iv = .int .i64 0 ∧ Hid (J [] wr))
    case atStart => exact ⟨rfl, HJ1⟩
    case round =>
      obtain ⟨rfl, HJP⟩ := hrel
      gi_wp2
      go_end0
      exact ⟨⟨_, rfl⟩, .inl ⟨[], by rw [HST.out, hL0]; rfl, HJP.out⟩⟩
  have hL0 : L ≠ [] := fun e => hn0 (by rw [hn.out, e]; rfl)
  have hR1 := Lib.hid (RowK.of_own (Prot := Prot) HO1.out hL0 fun b cs hb hc => hnew.out W w1 b cs HW.out HB1.out hb hc)
  have hJ1 : Hid (J [] w1) := Lib.hid (HJ.out [] W w1 none H0.out ⟨HB1.out.os, HB1.out.tape, HB1.out.output, HB1.out.size, fun k hk _ => HB1.out.block k hk⟩ (fun r e => by cases e))
  have hA0 := hL0
  gi_loopg [4, 8] n (fun q v4 iv wr => ∃ (j : Nat) (pre : List TmpNm), q = n - j ∧ j ≤ n ∧ iv = .int .i64 j ∧ Hid (pre.map (fun x => x.1) = (L.take j).filter Disk.isTmp) ∧ Hid (J pre wr) ∧ Hid (RowK Prot A L wr))
  case atStart => exact ⟨0, [], by omega, by omega, rfl, Lib.hid rfl, hJ1, hR1⟩
  case round =>
    obtain ⟨j, pre, rfl, hj, rfl, HPR, HJP, HR⟩ := hrel
    by_cases hjn : j < n
    · have hjl : j < L.length := by rw [← hn.out]; exact hjn
      obtain ⟨g, cur, rfl, hg, hcur, hpr⟩ := HR.out
      obtain ⟨hcj, hlj⟩ := hcur j hjl
      have hcell : wr.cell? ⟨g, j, none⟩ = some (.string (ba L[j])) := (cell_of_row wr g j cur _ (0, 0) hg).trans hcj
      obtain ⟨nm, hnm⟩ : ∃ nm : ByteArray, nm = ba L[j] := ⟨_, rfl⟩
      rw [← hnm] at hcell
      obtain ⟨tb, htb⟩ : ∃ tb, Disk.isTmp L[j] = tb := ⟨_, rfl⟩
      have HIS : Hid (∀ W, Calls Try.prog 21 #[.string nm] W fun e w' => e = .returned (.bool tb) ∧ W = w') := Lib.hid fun W => by have h := is_any nm W; rw [show nm.data.toList = L[j] by rw [hnm]; rfl, htb] at h; exact h
      have hfs := filt_snoc (L := L) hjl
      have HFS := Lib.hid hfs
      have HTB := Lib.hid htb
      have HNM := Lib.hid hnm
      have HLJ := Lib.hid hlj
      have HG := Lib.hid hg
      have HCUR := Lib.hid hcur
      have HPROT := Lib.hid hpr
      clear hfs htb hnm hlj hg hcur hpr hcj hA0
      cases tb
      case false =>
        gi_wp2_with (refine ⟨trivial, fun _ => by omega, ?_⟩; gi_at_call 21; refine (callsIn_wide.2 (HIS.out _)).mono ?_; rintro e w' ⟨rfl, rfl⟩)
        refine ⟨fun _ h => (by cases h), ?_⟩
        gi_wp2
        gi_roundg (n - (j + 1))
        case measure => omega
        case rel => exact ⟨j + 1, pre, rfl, by omega, by go_num, Lib.hid (by rw [HFS.out, HTB.out, HPR.out]; simp), HJP, HR⟩
      case true =>
        have HFY := Lib.hid (filt_yes hjl HTB.out)
        have hpl : pre.length < s.stale.length := by
          have h1 := filt_lt hjl HTB.out
          have h2 := congrArg List.length HPR.out
          rw [List.length_map] at h2
          rw [HST.out]; omega
        obtain ⟨fn, tmps, assign, body, hy, hR⟩ := HY.out pre ⟨L[j], HTB.out, HLJ.out⟩ wr HJP.out hpl
        dsimp only at hy
        rw [← HNM.out] at hy
        have HRD := Lib.hid hR
        clear hR hpl
        gi_wp2_with (first
          | (refine ⟨trivial, fun _ => by omega, ?_⟩; gi_at_call 21; refine (callsIn_wide.2 (HIS.out _)).mono ?_; rintro e w' ⟨rfl, rfl⟩))
        refine ⟨fun _ => by omega, HRD.out.mono ?_⟩
        rintro e W3 (⟨rfl, hJ3, hk3⟩ | ⟨rfl, hJx3⟩)
        · have HJ3 := Lib.hid hJ3
          have hp3 := hk3 g HPROT.out
          have HR3 : Hid (RowK Prot (some ⟨g, 0, none⟩) L W3) := Lib.hid ⟨g, cur, rfl, hp3.2.trans HG.out, HCUR.out, hp3.1⟩
          clear hJ3 hk3 hp3
          gi_wp2
          gi_roundg (n - (j + 1))
          case measure => omega
          case rel => exact ⟨j + 1, pre ++ [⟨L[j], HTB.out, HLJ.out⟩], rfl, by omega, by go_num, Lib.hid (by rw [HFY.out, List.map_append, HPR.out]; rfl), HJ3, HR3⟩
        · have HJX := Lib.hid hJx3
          clear hJx3
          gi_wp2
          refine bodyPost_ret (results_none rfl _ _ _) rfl ?_
          refine ⟨⟨_, rfl⟩, .inr ⟨pre ++ [⟨L[j], HTB.out, HLJ.out⟩], ?_, HJX.out⟩⟩
          rw [HST.out, List.map_append, HPR.out]
          have := filt_pre L (j + 1)
          rw [HFY.out] at this
          exact this
    · obtain rfl : j = n := by omega
      gi_wp2
      go_end0
      exact ⟨⟨_, rfl⟩, .inl ⟨pre, by rw [HPR.out, HST.out, hn.out, List.take_length], HJP.out⟩⟩
end Go.Proofs.Ytfommpbblpnljaa
namespace Go.Proofs.Ytfommpbblpnljaa
open Go.RowKit Go.ChangeShapes Go.WideShapes Go.Deep Go.Shelf
attribute [local go_sem] Oper.semAt_some

theorem wpListIn_append_Own {α : Type} {Fc : Fence} {n : Nat} {P : Program} (w : World) {ops : Array Oper} {rest : List Oper} {o : Oper} {a : Act} {Q : Exit → Act → World → Prop} (hgd : o.guard = none) (s x : Operand) (t : TypeId)
    (ho : o.op = .call { callee := .builtin .append, args := #[s, x], argTypes := #[t, t] })
    (r : Rep α) (base : Nat) (e : TypeId) (bytes : Nat) (hT : SliceType P t e r.n bytes) (v : Value) (l : List α) (hs : a.eval s = v) (hown : Own r e w base nob v l)
    (S2 : Blocks) (A : Option Addr) (c k : Nat) (m : List α) (hx : a.eval x = .slice A k c) (hk : m.length = k) (hm : SliceAt r w S2 A c m) 
    (hflat : ∀ cs x, r.is w S2 cs x → r.is w nob cs x) (hbytes : (l.length + m.length) * bytes ≤ 140737488355328) (hlen : l.length + m.length ≤ 9223372036854775807) (hbase : base ≤ w.heap.size)
    (h : ∀ v' w', Own r e w' base nob v' (l ++ m) → w.grownBy w' v.ownBlock → (v'.ownBlock = v.ownBlock ∨ v'.ownBlock = some w.heap.size) → wpListIn Fc n P ops Q rest (a.put o.dst v') w') : wpListIn Fc n P ops Q (o :: rest) a w := by
  subst hk
  refine wpListIn_plain hgd fun K hK' => ?_
  obtain ⟨v', w', hrun, h2, h3, h4⟩ := run_append_Own (P := P) w r base t o.type e bytes hT nob v l hown S2 A c m hm nob (fun _ h => h.elim) (fun _ h => h) hflat hbytes hlen hbase
  unfold Oper.wpIn
  refine ⟨by simp [Oper.about, ho, resolve, Target.leads, Sem.run_pure], ?_⟩
  rw [Oper.semAt_plain Fc _ _ (by rw [ho]; intro c hc'; cases hc')]
  simp [execOp, ho, resolve, invoke, builtin, hs, hx, hrun, Result.andThen]
  exact hK' _ _ (h v' w' h2 h3 h4)
theorem wpIn_gen {Fc : Fence} {n : Nat} {P : Program} {c : Code} {Q : Exit → Act → World → Prop} {a : Act} {w0 : World} (R : World → Prop) (h0 : R w0) (h : ∀ W, R W → c.wpIn Fc n P Q a W) : c.wpIn Fc n P Q a w0 := h _ h0
/-- A row of strings, protected where the box does not hold it. -/
def ProtS (B : Nat) (W : World) (b : Nat) : Prop := (∃ cs, W.heap[b]? = some (.cells cs 9 (0, 0))) ∧ ∃ v, Boxed W B 64 v ∧ v.ownBlock ≠ some b
/-- What lies in the box between the rounds. -/
def CollI (w : World) (pre : List TmpNm) (W : World) : Prop :=
  (∃ v, Boxed W w.heap.size 64 v ∧ W.ownsRow w.heap.size 9 1 v pre.length (pre.map fun x => .string (ba x.1)) ∧ True) ∧ Below w.heap.size w W
theorem own_of_row {W : World} {base : Nat} {v : Value} {pre : List TmpNm} (h : W.ownsRow base 9 1 v pre.length (pre.map fun x => .string (ba x.1))) : Own Rep.str 9 W base nob v ((pre.map fun x => x.1).map ba) := by
  refine strs_own ?_ fun x hx => ?_
  · simpa [List.map_map, Function.comp_def] using h
  · obtain ⟨y, hy, rfl⟩ := List.mem_map.1 hx
    obtain ⟨z, -, rfl⟩ := List.mem_map.1 hy
    rw [ba_size]
    exact z.2.2
theorem coll_row {W : World} {base : Nat} {v' : Value} {pre : List TmpNm} {x : TmpNm} (h : Own Rep.str 9 W base nob v' ((pre.map fun x => x.1).map ba ++ [ba x.1])) : W.ownsRow base 9 1 v' (pre ++ [x]).length ((pre ++ [x]).map fun x => .string (ba x.1)) := by
  have := own_strs h
  simpa [List.map_map, Function.comp_def] using this
theorem coll_keep {W w1 : World} {B : Nat} {v v' : Value} {ob : Obj} (hv : Boxed W B 64 v) (hg : (W.alloc ob).grownBy w1 v.ownBlock) (hat : v'.ownBlock = v.ownBlock ∨ v'.ownBlock = some (W.alloc ob).heap.size) (hv2 : Boxed (w1.setCell ⟨B, 0, none⟩ v') B 64 v') :
    ∀ b, ProtS B W b → ProtS B (w1.setCell ⟨B, 0, none⟩ v') b ∧ (w1.setCell ⟨B, 0, none⟩ v').heap[b]? = W.heap[b]? := by
  rintro b ⟨⟨cs, hcs⟩, u, hu, hub⟩
  have huv : u = v := by
    have := (show W.heap[B]? = _ from hu).symm.trans hv
    simpa using this
  subst huv
  have hbl := (Array.getElem?_eq_some_iff.1 hcs).1
  have hbB : b ≠ B := fun e => by
    subst e
    rw [show W.heap[b]? = _ from hv] at hcs
    simp at hcs
  have e1 : (w1.setCell ⟨B, 0, none⟩ v').heap[b]? = W.heap[b]? :=
    (Below.heap_setCell _ _ _ _ hbB).trans ((hg.block b (by simp; omega) fun e => hub e.symm).trans (Below.heap_alloc _ _ _ hbl))
  refine ⟨⟨⟨cs, e1.trans hcs⟩, v', hv2, ?_⟩, e1⟩
  rcases hat with e | e <;> rw [e]
  · exact hub
  · simp; omega
set_option maxRecDepth 100000 in
set_option maxHeartbeats 4000000 in
theorem stale_any {F : Blocks} {d : Nat} {s : Disk.St} {w : World} (HA : Hid (DiskAt w F d s)) (hf : Hid (Disk.Fine s)) (hsl : s.stale.length ≤ 64) : Calls Try.prog 23 #[.pointer (some ⟨d, 0, none⟩)] w (StrsPost w s.stale) := by
  refine (callsIn_wide (n := 5)).1 ?_
  refine callsIn_of_wp_marks Try.func23 rfl trivial ?_ rfl
  simp only [Try.ntmps23, List.size_toArray, List.length_cons, List.length_nil, Nat.reduceAdd, Nat.reduceSub, Array.replicate_succ, Array.replicate_zero, List.push_toArray, List.append_toArray, List.nil_append, List.cons_append]
  gi_wp2_with (refine ⟨trivial, ?_⟩; gi_at_call 60; refine (callsIn_wide.2 (stale_maker _ _)).mono ?_; rintro e w' ⟨rfl, rfl⟩)
  have bO := Boxed.new w 64 (.slice none 0 0)
  have bN := Boxed.new (w.alloc (.cells #[.slice none 0 0] 64)) 22 (.pointer (some ⟨d, 0, none⟩))
  rw [World.size_alloc] at bN
  have hB0 : Below w.heap.size w ((w.alloc (.cells #[.slice none 0 0] 64)).alloc (.cells #[.pointer (some ⟨d, 0, none⟩)] 22)) := ((Below.refl _ w).alloc (Nat.le_refl _) _).alloc (by simp) _
  have HD : Hid (DiskAt ((w.alloc (.cells #[.slice none 0 0] 64)).alloc (.cells #[.pointer (some ⟨d, 0, none⟩)] 22)) F d s) := Lib.hid (by
    obtain ⟨loc, blk, bn, bo, rowv, pA, pC, hB⟩ := HA.out
    exact (hB.far hB0).at_)
  refine wpIn_rangeFunc_ownG rfl (by omega) (gf := 70) (lb := #[.pointer (some ⟨w.heap.size + 1, 0, none⟩)]) rfl trivial (enters_of Try.func70 (by kernel_rfl) rfl)
    (stale_stops _ (by omega) d (w.heap.size + 1) s F _ HD hf bN.cell bN.lt (ProtS w.heap.size) (Lib.hid fun W W' b cs h1 h2 hb hc => ?prot)) (fun h k b hb => ⟨(k b (h b hb).1).1, (k b (h b hb).1).2.trans (h b hb).2⟩) (fun W l o o' _ hl ho _ b hb => ?kb) (Below.refl _ _) (fun _ => rfl)
    (CollI w) (fun _ _ _ => False)
    (OwnFrom.and (Own.from (holdsRow_own w.heap.size w.heap.size 64 9 1 (fun pre : List TmpNm => pre.length) (fun pre => pre.map fun x => Value.string (ba x.1)) (fun _ _ => True)) _) (ownFrom_below (Nat.le_refl _) (by simp; omega)))
    (fun _ _ _ _ _ hs _ _ => hs)
    ⟨⟨_, bO.alloc _, World.ownsRow_nil _ _ _ _, trivial⟩, hB0⟩
    (fun x => { tmps := #[.pointer (some ⟨d, 0, none⟩), undef, .slice none 0 0, .pointer (some ⟨w.heap.size, 0, none⟩), .string (ba x.1), .pointer (some ⟨d, 0, none⟩), .func (.func 70) #[] #[.pointer (some ⟨w.heap.size + 1, 0, none⟩)], .string (ba x.1), undef, undef, undef, undef, undef], defers := [] }) ?assign ?body ?done ?stop
  case prot =>
    refine ⟨⟨cs, hc⟩, .slice none 0 0, ?_, by simp [Value.ownBlock]⟩
    have h3 : w.heap.size < ((w.alloc (.cells #[.slice none 0 0] 64)).alloc (.cells #[.pointer (some ⟨d, 0, none⟩)] 22)).heap.size := by simp; omega
    exact (h2.block _ (Nat.lt_of_lt_of_le h3 h1.size)).trans ((h1.block _ h3).trans (bO.alloc _))
  case kb =>
    obtain ⟨⟨cs, hcs⟩, v, hv, hvb⟩ := hb
    have hbl : b ≠ l := fun e => by subst e; rw [hcs] at hl; cases hl; cases ho
    have hBl : w.heap.size ≠ l := fun e => by
      rw [← e] at hl
      rw [show W.heap[w.heap.size]? = _ from hv] at hl; cases hl; cases ho
    have e1 : (W.putObj l o').heap[b]? = W.heap[b]? := World.putObj_heap_other hbl
    exact ⟨⟨⟨cs, e1.trans hcs⟩, v, (World.putObj_heap_other hBl).trans hv, hvb⟩, e1⟩
  case assign =>
    intro l x W K hK
    gi_wp2
    exact hK
  case body =>
    rintro l pre x W ⟨⟨v, hv, hrow, -⟩, hB⟩ hlt
    have hc := hv.cell
    have hrowO := own_of_row hrow
    have hlen : ((pre.map fun x => x.1).map ba).length = pre.length := by simp
    have hle : pre.length ≤ 64 := by omega
    gi_wp2_with (gi_at_builtin; refine wpListIn_append_Own _ rfl _ _ 64 rfl Rep.str w.heap.size 9 16 stStr v _ rfl (hrowO.alloc _) _ _ 1 1 [ba x.1] rfl rfl (str_one _ _ _ (by rw [ba_size]; exact x.2.2)) (fun _ _ h => h) (by rw [hlen]; simp; omega) (by rw [hlen]; simp; omega) (by have := hB.size; simp; omega) ?_; intro v' w1 hown' hgrow hat; obtain ⟨hv1, hv2, hr2, hk2, hb2⟩ := hv.appended (by decide) hrow hB.size (Nat.le_refl _) (coll_row hown') hgrow; have hkp := Lib.hid (coll_keep hv hgrow hat hv2); obtain ⟨A5, n5, c5, rfl, -, -, -⟩ := hown'.form; have hc1 := hv1.cell; have hf1 := hv1.frozen; have HV2 := Lib.hid hv2; have HR2 := Lib.hid hr2; have HK2 := Lib.hid hk2; have HB2 := Lib.hid hb2; clear hv1 hv2 hr2 hk2 hb2 hown' hgrow hat)
    exact ⟨HK2.out.from _, hkp.out, ⟨_, HV2.out, HR2.out, trivial⟩, hB.trans HB2.out⟩
  case done =>
    rintro D ys W hD hS ⟨⟨v, hv, hrow, -⟩, hB⟩ hK
    have hc := hv.cell
    gi_wp2
    refine ⟨by simp, .inl ⟨_, _, rfl, run_takeDeferred hK, ?_⟩⟩
    have hlen : ys.length = s.stale.length := by rw [← hS, List.length_map]
    have hO := own_of_row (ownsRow_putObj hrow (.deferred none) hK rfl)
    rw [show (ys.map fun x => x.1) = s.stale from hS] at hO
    obtain ⟨A5, n5, c5, rfl, hn5, hnc5, hcm5⟩ := hO.form
    exact ⟨_, results_tmp rfl _ _ _, A5, n5, c5, rfl, Lib.hid (by rw [hn5.out, List.length_map]), hnc5, hcm5, hO, hB.trans (belowK_b (w := w) (Nat.le_refl _) W D _ _ (by simp at hD; omega) hK rfl rfl)⟩
  case stop =>
    rintro D c pre W _ _ h _
    exact h.elim
end Go.Proofs.Ytfommpbblpnljaa
