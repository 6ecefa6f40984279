/- Texts that lead to the claim, one behind the other: The iterator over a disk's temporary names: temps.stale and its closure. Conditions: none. | temps.Stale: the walk. Conditions: none. | temps.Clean: the walk. Condition: the counts are below 2^40. -/
import Derived.Test.YtncpeogkccjmcaaGreatDoorTK27
import Derived.Test.YtncpeogkccjmcaaGreatDoorTK14
import Derived.RangeFuncNested
import Derived.RangeFuncBound
import Derived.RangeFuncCalls
import Derived.RangeFuncLeaves
import Derived.Shelf.RegionOpen
import Derived.OwnWalkIn
import Derived.TacticsInMore
import Derived.LoopNIn
import Derived.LoopIn
import Derived.Sort.LoopGhostIn
import Derived.Test.YtncpeogkccjmcaaGreatDoorTK28
import Derived.Test.YtncpeogkccjmcaaGreatDoorTK29
import Derived.Test.YtncpeogkccjmcaaGreatDoorTK12
namespace Go.Proofs.YtncpeogkccjmcaaGreatDoor
open Go.RowKit Go.ChangeShapes Go.WideShapes Go.Deep Go.Shelf
attribute [local go_sem] Oper.semAt_some

/-- A temporary name in memory's reach. -/
abbrev TmpNm := { x : Disk.Nm // Disk.isTmp x = true ∧ x.length ≤ maxLen }
theorem stale_maker (p : Option Addr) (w : World) : Calls Tryz.prog 29 #[.pointer p] w fun e w' => e = .returned (.func (.func 87) #[] #[.pointer (some ⟨w.heap.size, 0, none⟩)]) ∧ w' = w.alloc (.cells #[.pointer p] 25) := by
  go_enter Tryz.func29, Tryz.ntmps29
  go_wp2_with fail
  go_ret
  exact ⟨rfl, rfl⟩
/-- The row of names that the iterator reads between the rounds. -/
def RowK (Prot : World → Nat → Prop) (A : Option Addr) (L : List Disk.Nm) (wr : World) : Prop :=
  ∃ g cur, A = some ⟨g, 0, none⟩ ∧ wr.heap[g]? = some (.cells cur 9 (0, 0)) ∧ (∀ i (h : i < L.length), cur[i]? = some (.string (ba L[i])) ∧ L[i].length ≤ maxLen) ∧ Prot wr g
theorem RowK.of_own {Prot : World → Nat → Prop} {W w1 : World} {A : Option Addr} {n c : Nat} {L : List Disk.Nm} (h : Own Rep.str 9 w1 W.heap.size nob (.slice A n c) (L.map ba)) (h0 : L ≠ []) (hp : ∀ b cs, W.heap.size ≤ b → w1.heap[b]? = some (.cells cs 9 (0, 0)) → Prot w1 b) : RowK Prot A L w1 := by
  have hsz : ∀ i (hi : i < L.length), L[i].length ≤ maxLen := fun i hi => by
    obtain ⟨xs, hx, -, -, hr⟩ := h
    have := (hr i (by simpa using hi)).2
    rw [List.getElem_map, ba_size] at this
    exact this
  have hown := own_strs h
  rcases hown.2 with ⟨hnil, hz⟩ | ⟨g, cap, cur, he, hbase, hb, e1, e2, e3, e4⟩
  · exact absurd (List.eq_nil_of_length_eq_zero (by simpa using hz)) h0
  · simp only [Value.slice.injEq] at he
    obtain ⟨rfl, -, -⟩ := he
    refine ⟨g, cur, rfl, hb, fun i hi => ⟨?_, hsz i hi⟩, hp g cur hbase hb⟩
    rw [Nat.mul_one] at e4
    have h1 : (((L.map ba).map Value.string))[i]? = some (.string (ba L[i])) := by simp [hi]
    rw [← e4, List.getElem?_take, if_pos (by simpa using hi), Array.getElem?_toList] at h1
    exact h1
theorem filt_snoc {L : List Disk.Nm} {j : Nat} (hj : j < L.length) : (L.take (j + 1)).filter Disk.isTmp = (L.take j).filter Disk.isTmp ++ (if Disk.isTmp L[j] then [L[j]] else []) := by
  rw [List.take_succ_eq_append_getElem hj, List.filter_append]
  congr 1
  cases h : Disk.isTmp L[j] <;> simp [h]
theorem filt_yes {L : List Disk.Nm} {j : Nat} (hj : j < L.length) (ht : Disk.isTmp L[j] = true) : (L.take (j + 1)).filter Disk.isTmp = (L.take j).filter Disk.isTmp ++ [L[j]] := by rw [filt_snoc hj, if_pos ht]
theorem filt_pre (L : List Disk.Nm) (j : Nat) : (L.take j).filter Disk.isTmp <+: L.filter Disk.isTmp := by
  conv => rhs; rw [← List.take_append_drop j L, List.filter_append]
  exact List.prefix_append _ _
theorem filt_lt {L : List Disk.Nm} {j : Nat} (hj : j < L.length) (ht : Disk.isTmp L[j] = true) : ((L.take j).filter Disk.isTmp).length < (L.filter Disk.isTmp).length := by
  have h := (filt_pre L (j + 1)).length_le
  rw [filt_snoc hj, if_pos ht, List.length_append] at h
  simp only [List.length_cons, List.length_nil] at h
  omega
set_option maxRecDepth 100000 in
set_option maxHeartbeats 4000000 in
theorem stale_stopsG (k : Nat) (_hk : 3 ≤ k) (p : Option Addr) (Bn : Nat) (L : List Disk.Nm) (w : World) (HNM : Hid (∀ W, Below w.heap.size w W → Calls Tryz.prog 33 #[.pointer p] W (StrsPost W L))) (hBn : w.cell? ⟨Bn, 0, none⟩ = some (.pointer p)) (hlt : Bn < w.heap.size)
    (Prot : World → Nat → Prop) (hnew : Hid (∀ W W' b cs, Below w.heap.size w W → Below W.heap.size W W' → W.heap.size ≤ b → W'.heap[b]? = some (.cells cs 9 (0, 0)) → Prot W' b)) (ST : List Disk.Nm) (hst : ST = L.filter Disk.isTmp) :
    SeqStopsK Fence.wide k Tryz.prog 87 #[.pointer (some ⟨Bn, 0, none⟩)] (fun x : TmpNm => #[Value.string (ba x.1)]) (fun W W' => ∀ b, Prot W b → Prot W' b ∧ W'.heap[b]? = W.heap[b]?) (fun xs => xs.map (fun x => x.1) = ST) (fun pre => pre.map (fun x => x.1) <+: ST) ST.length w := fun l J Jx W hW hJ hJx hY h0 => by
  have HN := Lib.hid (HNM.out W hW)
  have c0 : W.cell? ⟨Bn, 0, none⟩ = some (.pointer p) := (hW.cell (p := ⟨Bn, 0, none⟩) hlt).trans hBn
  have HW := Lib.hid hW
  have HJ := Lib.hid hJ
  have HY := Lib.hid hY
  have H0 := Lib.hid h0
  have HST := Lib.hid hst
  clear hW hJ hJx hY h0 hBn hst
  refine callsIn_of_wp Tryz.func87 rfl trivial ?_ rfl
  simp only [Tryz.ntmps87, List.size_toArray, List.length_cons, List.length_nil, Nat.reduceAdd, Nat.reduceSub, Array.replicate_succ, Array.replicate_zero, List.push_toArray, List.append_toArray, List.nil_append, List.cons_append]
  gi_wp2_with (refine ⟨trivial, fun _ => by omega, ?_⟩; gi_at_call 33; refine (callsIn_wide.2 HN.out).mono ?_; rintro e w1 ⟨A, n, c, rfl, hn, hnc, hcm, hown, hb⟩; have HB1 := Lib.hid hb; have HO1 := Lib.hid hown; clear hb hown)
  by_cases hn0 : n = 0
  · subst hn0
    have hL0 : L = [] := List.eq_nil_of_length_eq_zero hn.out.symm
    have hJ1 : J [] w1 := HJ.out [] W w1 none H0.out ⟨HB1.out.os, HB1.out.tape, HB1.out.output, HB1.out.size, fun k hk _ => HB1.out.block k hk⟩ (fun r e => by cases e)
    have HJ1 := Lib.hid hJ1
    clear hJ1
    gi_loopg [4, 8] 0 (fun q v4 iv wr => iv = .int .i64 0 ∧ Hid (J [] wr))
    case atStart => exact ⟨rfl, HJ1⟩
    case round =>
      obtain ⟨rfl, HJP⟩ := hrel
      gi_wp2
      go_end0
      exact ⟨⟨_, rfl⟩, .inl ⟨[], by rw [HST.out, hL0]; rfl, HJP.out⟩⟩
  have hL0 : L ≠ [] := fun e => hn0 (by rw [hn.out, e]; rfl)
  have hR1 := Lib.hid (RowK.of_own (Prot := Prot) HO1.out hL0 fun b cs hb hc => hnew.out W w1 b cs HW.out HB1.out hb hc)
  have hJ1 : Hid (J [] w1) := Lib.hid (HJ.out [] W w1 none H0.out ⟨HB1.out.os, HB1.out.tape, HB1.out.output, HB1.out.size, fun k hk _ => HB1.out.block k hk⟩ (fun r e => by cases e))
  have hA0 := hL0
  gi_loopg [4, 8] n (fun q v4 iv wr => ∃ (j : Nat) (pre : List TmpNm), q = n - j ∧ j ≤ n ∧ iv = .int .i64 j ∧ Hid (pre.map (fun x => x.1) = (L.take j).filter Disk.isTmp) ∧ Hid (J pre wr) ∧ Hid (RowK Prot A L wr))
  case atStart => exact ⟨0, [], by omega, by omega, rfl, Lib.hid rfl, hJ1, hR1⟩
  case round =>
    obtain ⟨j, pre, rfl, hj, rfl, HPR, HJP, HR⟩ := hrel
    by_cases hjn : j < n
    · have hjl : j < L.length := by rw [← hn.out]; exact hjn
      obtain ⟨g, cur, rfl, hg, hcur, hpr⟩ := HR.out
      obtain ⟨hcj, hlj⟩ := hcur j hjl
      have hcell : wr.cell? ⟨g, j, none⟩ = some (.string (ba L[j])) := (cell_of_row wr g j cur _ (0, 0) hg).trans hcj
      obtain ⟨nm, hnm⟩ : ∃ nm : ByteArray, nm = ba L[j] := ⟨_, rfl⟩
      rw [← hnm] at hcell
      obtain ⟨tb, htb⟩ : ∃ tb, Disk.isTmp L[j] = tb := ⟨_, rfl⟩
      have HIS : Hid (∀ W, Calls Tryz.prog 32 #[.string nm] W fun e w' => e = .returned (.bool tb) ∧ W = w') := Lib.hid fun W => by have h := is_any nm W; rw [show nm.data.toList = L[j] by rw [hnm]; rfl, htb] at h; exact h
      have hfs := filt_snoc (L := L) hjl
      have HFS := Lib.hid hfs
      have HTB := Lib.hid htb
      have HNM := Lib.hid hnm
      have HLJ := Lib.hid hlj
      have HG := Lib.hid hg
      have HCUR := Lib.hid hcur
      have HPROT := Lib.hid hpr
      clear hfs htb hnm hlj hg hcur hpr hcj hA0
      cases tb
      case false =>
        gi_wp2_with (refine ⟨trivial, fun _ => by omega, ?_⟩; gi_at_call 32; refine (callsIn_wide.2 (HIS.out _)).mono ?_; rintro e w' ⟨rfl, rfl⟩)
        refine ⟨fun _ h => (by cases h), ?_⟩
        gi_wp2
        gi_roundg (n - (j + 1))
        case measure => omega
        case rel => exact ⟨j + 1, pre, rfl, by omega, by go_num, Lib.hid (by rw [HFS.out, HTB.out, HPR.out]; simp), HJP, HR⟩
      case true =>
        have HFY := Lib.hid (filt_yes hjl HTB.out)
        have hpl : pre.length < ST.length := by
          have h1 := filt_lt hjl HTB.out
          have h2 := congrArg List.length HPR.out
          rw [List.length_map] at h2
          rw [HST.out]; omega
        obtain ⟨fn, tmps, assign, body, hy, hR⟩ := HY.out pre ⟨L[j], HTB.out, HLJ.out⟩ wr HJP.out hpl
        dsimp only at hy
        rw [← HNM.out] at hy
        have HRD := Lib.hid hR
        clear hR hpl
        gi_wp2_with (first
          | (refine ⟨trivial, fun _ => by omega, ?_⟩; gi_at_call 32; refine (callsIn_wide.2 (HIS.out _)).mono ?_; rintro e w' ⟨rfl, rfl⟩))
        refine ⟨fun _ => by omega, HRD.out.mono ?_⟩
        rintro e W3 (⟨rfl, hJ3, hk3⟩ | ⟨rfl, hJx3⟩)
        · have HJ3 := Lib.hid hJ3
          have hp3 := hk3 g HPROT.out
          have HR3 : Hid (RowK Prot (some ⟨g, 0, none⟩) L W3) := Lib.hid ⟨g, cur, rfl, hp3.2.trans HG.out, HCUR.out, hp3.1⟩
          clear hJ3 hk3 hp3
          gi_wp2
          gi_roundg (n - (j + 1))
          case measure => omega
          case rel => exact ⟨j + 1, pre ++ [⟨L[j], HTB.out, HLJ.out⟩], rfl, by omega, by go_num, Lib.hid (by rw [HFY.out, List.map_append, HPR.out]; rfl), HJ3, HR3⟩
        · have HJX := Lib.hid hJx3
          clear hJx3
          gi_wp2
          refine bodyPost_ret (results_none rfl _ _ _) rfl ?_
          refine ⟨⟨_, rfl⟩, .inr ⟨pre ++ [⟨L[j], HTB.out, HLJ.out⟩], ?_, HJX.out⟩⟩
          rw [HST.out, List.map_append, HPR.out]
          have := filt_pre L (j + 1)
          rw [HFY.out] at this
          exact this
    · obtain rfl : j = n := by omega
      gi_wp2
      go_end0
      exact ⟨⟨_, rfl⟩, .inl ⟨pre, by rw [HPR.out, HST.out, hn.out, List.take_length], HJP.out⟩⟩
theorem stale_stops (k : Nat) (hk : 3 ≤ k) (d Bn : Nat) (s : Disk.St) (F : Blocks) (w : World) (HA : Hid (DiskAt w F d s)) (hf : Hid (Disk.Fine s)) (hBn : w.cell? ⟨Bn, 0, none⟩ = some (.pointer (some ⟨d, 0, none⟩))) (hlt : Bn < w.heap.size)
    (Prot : World → Nat → Prop) (hnew : Hid (∀ W W' b cs, Below w.heap.size w W → Below W.heap.size W W' → W.heap.size ≤ b → W'.heap[b]? = some (.cells cs 9 (0, 0)) → Prot W' b)) :
    SeqStopsK Fence.wide k Tryz.prog 87 #[.pointer (some ⟨Bn, 0, none⟩)] (fun x : TmpNm => #[Value.string (ba x.1)]) (fun W W' => ∀ b, Prot W b → Prot W' b ∧ W'.heap[b]? = W.heap[b]?) (fun xs => xs.map (fun x => x.1) = s.stale) (fun pre => pre.map (fun x => x.1) <+: s.stale) s.stale.length w :=
  stale_stopsG k hk (some ⟨d, 0, none⟩) Bn s.names w (Lib.hid fun W hW => diskNames_any (w := W) (Lib.hid (by
    obtain ⟨loc, blk, bn, bo, rowv, pA, pC, hB⟩ := HA.out
    exact (hB.far hW).at_)) hf) hBn hlt Prot hnew s.stale rfl
end Go.Proofs.YtncpeogkccjmcaaGreatDoor
namespace Go.Proofs.YtncpeogkccjmcaaGreatDoor
open Go.RowKit Go.ChangeShapes Go.WideShapes Go.Deep Go.Shelf
attribute [local go_sem] Oper.semAt_some

theorem wpListIn_append_Own {α : Type} {Fc : Fence} {n : Nat} {P : Program} (w : World) {ops : Array Oper} {rest : List Oper} {o : Oper} {a : Act} {Q : Exit → Act → World → Prop} (hgd : o.guard = none) (s x : Operand) (t : TypeId)
    (ho : o.op = .call { callee := .builtin .append, args := #[s, x], argTypes := #[t, t] })
    (r : Rep α) (base : Nat) (e : TypeId) (bytes : Nat) (hT : SliceType P t e r.n bytes) (v : Value) (l : List α) (hs : a.eval s = v) (hown : Own r e w base nob v l)
    (S2 : Blocks) (A : Option Addr) (c k : Nat) (m : List α) (hx : a.eval x = .slice A k c) (hk : m.length = k) (hm : SliceAt r w S2 A c m) 
    (hflat : ∀ cs x, r.is w S2 cs x → r.is w nob cs x) (hbytes : (l.length + m.length) * bytes ≤ 140737488355328) (hlen : l.length + m.length ≤ 9223372036854775807) (hbase : base ≤ w.heap.size)
    (h : ∀ v' w', Own r e w' base nob v' (l ++ m) → w.grownBy w' v.ownBlock → (v'.ownBlock = v.ownBlock ∨ v'.ownBlock = some w.heap.size) → wpListIn Fc n P ops Q rest (a.put o.dst v') w') : wpListIn Fc n P ops Q (o :: rest) a w := by
  subst hk
  refine wpListIn_plain hgd fun K hK' => ?_
  obtain ⟨v', w', hrun, h2, h3, h4⟩ := run_append_Own (P := P) w r base t o.type e bytes hT nob v l hown S2 A c m hm nob (fun _ h => h.elim) (fun _ h => h) hflat hbytes hlen hbase
  unfold Oper.wpIn
  refine ⟨by simp [Oper.about, ho, resolve, Target.leads, Sem.run_pure], ?_⟩
  rw [Oper.semAt_plain Fc _ _ (by rw [ho]; intro c hc'; cases hc')]
  simp [execOp, ho, resolve, invoke, builtin, hs, hx, hrun, Result.andThen]
  exact hK' _ _ (h v' w' h2 h3 h4)
theorem wpIn_gen {Fc : Fence} {n : Nat} {P : Program} {c : Code} {Q : Exit → Act → World → Prop} {a : Act} {w0 : World} (R : World → Prop) (h0 : R w0) (h : ∀ W, R W → c.wpIn Fc n P Q a W) : c.wpIn Fc n P Q a w0 := h _ h0
/-- A row of strings, protected where the box does not hold it. -/
def ProtS (B : Nat) (W : World) (b : Nat) : Prop := (∃ cs, W.heap[b]? = some (.cells cs 9 (0, 0))) ∧ ∃ v, Boxed W B 41 v ∧ v.ownBlock ≠ some b
/-- What lies in the box between the rounds. -/
def CollI (w : World) (pre : List TmpNm) (W : World) : Prop :=
  (∃ v, Boxed W w.heap.size 41 v ∧ W.ownsRow w.heap.size 9 1 v pre.length (pre.map fun x => .string (ba x.1)) ∧ True) ∧ Below w.heap.size w W
theorem own_of_row {W : World} {base : Nat} {v : Value} {pre : List TmpNm} (h : W.ownsRow base 9 1 v pre.length (pre.map fun x => .string (ba x.1))) : Own Rep.str 9 W base nob v ((pre.map fun x => x.1).map ba) := by
  refine strs_own ?_ fun x hx => ?_
  · simpa [List.map_map, Function.comp_def] using h
  · obtain ⟨y, hy, rfl⟩ := List.mem_map.1 hx
    obtain ⟨z, -, rfl⟩ := List.mem_map.1 hy
    rw [ba_size]
    exact z.2.2
theorem coll_row {W : World} {base : Nat} {v' : Value} {pre : List TmpNm} {x : TmpNm} (h : Own Rep.str 9 W base nob v' ((pre.map fun x => x.1).map ba ++ [ba x.1])) : W.ownsRow base 9 1 v' (pre ++ [x]).length ((pre ++ [x]).map fun x => .string (ba x.1)) := by
  have := own_strs h
  simpa [List.map_map, Function.comp_def] using this
theorem coll_keep {W w1 : World} {B : Nat} {v v' : Value} {ob : Obj} (hv : Boxed W B 41 v) (hg : (W.alloc ob).grownBy w1 v.ownBlock) (hat : v'.ownBlock = v.ownBlock ∨ v'.ownBlock = some (W.alloc ob).heap.size) (hv2 : Boxed (w1.setCell ⟨B, 0, none⟩ v') B 41 v') :
    ∀ b, ProtS B W b → ProtS B (w1.setCell ⟨B, 0, none⟩ v') b ∧ (w1.setCell ⟨B, 0, none⟩ v').heap[b]? = W.heap[b]? := by
  rintro b ⟨⟨cs, hcs⟩, u, hu, hub⟩
  have huv : u = v := by
    have := (show W.heap[B]? = _ from hu).symm.trans hv
    simpa using this
  subst huv
  have hbl := (Array.getElem?_eq_some_iff.1 hcs).1
  have hbB : b ≠ B := fun e => by
    subst e
    rw [show W.heap[b]? = _ from hv] at hcs
    simp at hcs
  have e1 : (w1.setCell ⟨B, 0, none⟩ v').heap[b]? = W.heap[b]? :=
    (Below.heap_setCell _ _ _ _ hbB).trans ((hg.block b (by simp; omega) fun e => hub e.symm).trans (Below.heap_alloc _ _ _ hbl))
  refine ⟨⟨⟨cs, e1.trans hcs⟩, v', hv2, ?_⟩, e1⟩
  rcases hat with e | e <;> rw [e]
  · exact hub
  · simp; omega
set_option maxRecDepth 100000 in
set_option maxHeartbeats 4000000 in
theorem stale_anyG (p : Option Addr) (L : List Disk.Nm) {w : World} (HNM : Hid (∀ W, Below w.heap.size w W → Calls Tryz.prog 33 #[.pointer p] W (StrsPost W L))) (ST : List Disk.Nm) (hst : ST = L.filter Disk.isTmp) (hsl : ST.length ≤ 64) : Calls Tryz.prog 9 #[.pointer p] w (StrsPost w ST) := by
  refine (callsIn_wide (n := 5)).1 ?_
  refine callsIn_of_wp_marks Tryz.func9 rfl trivial ?_ rfl
  simp only [Tryz.ntmps9, List.size_toArray, List.length_cons, List.length_nil, Nat.reduceAdd, Nat.reduceSub, Array.replicate_succ, Array.replicate_zero, List.push_toArray, List.append_toArray, List.nil_append, List.cons_append]
  gi_wp2_with (refine ⟨trivial, ?_⟩; gi_at_call 29; refine (callsIn_wide.2 (stale_maker _ _)).mono ?_; rintro e w' ⟨rfl, rfl⟩)
  have bO := Boxed.new w 41 (.slice none 0 0)
  have bN := Boxed.new (w.alloc (.cells #[.slice none 0 0] 41)) 25 (.pointer p)
  rw [World.size_alloc] at bN
  have hB0 : Below w.heap.size w ((w.alloc (.cells #[.slice none 0 0] 41)).alloc (.cells #[.pointer p] 25)) := ((Below.refl _ w).alloc (Nat.le_refl _) _).alloc (by simp) _
  have HD : Hid (∀ W, Below ((w.alloc (.cells #[.slice none 0 0] 41)).alloc (.cells #[.pointer p] 25)).heap.size ((w.alloc (.cells #[.slice none 0 0] 41)).alloc (.cells #[.pointer p] 25)) W → Calls Tryz.prog 33 #[.pointer p] W (StrsPost W L)) := Lib.hid fun W hW => HNM.out W (hB0.trans (hW.mono hB0.size))
  refine wpIn_rangeFunc_ownG rfl (by omega) (gf := 87) (lb := #[.pointer (some ⟨w.heap.size + 1, 0, none⟩)]) rfl trivial (enters_of Tryz.func87 (by kernel_rfl) rfl)
    (stale_stopsG _ (by omega) p (w.heap.size + 1) L _ HD bN.cell bN.lt (ProtS w.heap.size) (Lib.hid fun W W' b cs h1 h2 hb hc => ?prot) ST hst) (fun h k b hb => ⟨(k b (h b hb).1).1, (k b (h b hb).1).2.trans (h b hb).2⟩) (fun W l o o' _ hl ho _ b hb => ?kb) (Below.refl _ _) (fun _ => rfl)
    (CollI w) (fun _ _ _ => False)
    (OwnFrom.and (Own.from (holdsRow_own w.heap.size w.heap.size 41 9 1 (fun pre : List TmpNm => pre.length) (fun pre => pre.map fun x => Value.string (ba x.1)) (fun _ _ => True)) _) (ownFrom_below (Nat.le_refl _) (by simp; omega)))
    (fun _ _ _ _ _ hs _ _ => hs)
    ⟨⟨_, bO.alloc _, World.ownsRow_nil _ _ _ _, trivial⟩, hB0⟩
    (fun x => { tmps := #[.pointer p, undef, .slice none 0 0, .pointer (some ⟨w.heap.size, 0, none⟩), .string (ba x.1), .pointer p, .func (.func 87) #[] #[.pointer (some ⟨w.heap.size + 1, 0, none⟩)], .string (ba x.1), undef, undef, undef, undef, undef], defers := [] }) ?assign ?body ?done ?stop
  case prot =>
    refine ⟨⟨cs, hc⟩, .slice none 0 0, ?_, by simp [Value.ownBlock]⟩
    have h3 : w.heap.size < ((w.alloc (.cells #[.slice none 0 0] 41)).alloc (.cells #[.pointer p] 25)).heap.size := by simp; omega
    exact (h2.block _ (Nat.lt_of_lt_of_le h3 h1.size)).trans ((h1.block _ h3).trans (bO.alloc _))
  case kb =>
    obtain ⟨⟨cs, hcs⟩, v, hv, hvb⟩ := hb
    have hbl : b ≠ l := fun e => by subst e; rw [hcs] at hl; cases hl; cases ho
    have hBl : w.heap.size ≠ l := fun e => by
      rw [← e] at hl
      rw [show W.heap[w.heap.size]? = _ from hv] at hl; cases hl; cases ho
    have e1 : (W.putObj l o').heap[b]? = W.heap[b]? := World.putObj_heap_other hbl
    exact ⟨⟨⟨cs, e1.trans hcs⟩, v, (World.putObj_heap_other hBl).trans hv, hvb⟩, e1⟩
  case assign =>
    intro l x W K hK
    gi_wp2
    exact hK
  case body =>
    rintro l pre x W ⟨⟨v, hv, hrow, -⟩, hB⟩ hlt
    have hc := hv.cell
    have hrowO := own_of_row hrow
    have hlen : ((pre.map fun x => x.1).map ba).length = pre.length := by simp
    have hle : pre.length ≤ 64 := by omega
    gi_wp2_with (gi_at_builtin; refine wpListIn_append_Own _ rfl _ _ 41 rfl Rep.str w.heap.size 9 16 stStr v _ rfl (hrowO.alloc _) _ _ 1 1 [ba x.1] rfl rfl (str_one _ _ _ (by rw [ba_size]; exact x.2.2)) (fun _ _ h => h) (by rw [hlen]; simp; omega) (by rw [hlen]; simp; omega) (by have := hB.size; simp; omega) ?_; intro v' w1 hown' hgrow hat; obtain ⟨hv1, hv2, hr2, hk2, hb2⟩ := hv.appended (by decide) hrow hB.size (Nat.le_refl _) (coll_row hown') hgrow; have hkp := Lib.hid (coll_keep hv hgrow hat hv2); obtain ⟨A5, n5, c5, rfl, -, -, -⟩ := hown'.form; have hc1 := hv1.cell; have hf1 := hv1.frozen; have HV2 := Lib.hid hv2; have HR2 := Lib.hid hr2; have HK2 := Lib.hid hk2; have HB2 := Lib.hid hb2; clear hv1 hv2 hr2 hk2 hb2 hown' hgrow hat)
    exact ⟨HK2.out.from _, hkp.out, ⟨_, HV2.out, HR2.out, trivial⟩, hB.trans HB2.out⟩
  case done =>
    rintro D ys W hD hS ⟨⟨v, hv, hrow, -⟩, hB⟩ hK
    have hc := hv.cell
    gi_wp2
    refine ⟨by simp, .inl ⟨_, _, rfl, run_takeDeferred hK, ?_⟩⟩
    have hlen : ys.length = ST.length := by rw [← hS, List.length_map]
    have hO := own_of_row (ownsRow_putObj hrow (.deferred none) hK rfl)
    rw [show (ys.map fun x => x.1) = ST from hS] at hO
    obtain ⟨A5, n5, c5, rfl, hn5, hnc5, hcm5⟩ := hO.form
    exact ⟨_, results_tmp rfl _ _ _, A5, n5, c5, rfl, Lib.hid (by rw [hn5.out, List.length_map]), hnc5, hcm5, hO, hB.trans (belowK_b (w := w) (Nat.le_refl _) W D _ _ (by simp at hD; omega) hK rfl rfl)⟩
  case stop =>
    rintro D c pre W _ _ h _
    exact h.elim
theorem stale_any {F : Blocks} {d : Nat} {s : Disk.St} {w : World} (HA : Hid (DiskAt w F d s)) (hf : Hid (Disk.Fine s)) (hsl : s.stale.length ≤ 64) : Calls Tryz.prog 9 #[.pointer (some ⟨d, 0, none⟩)] w (StrsPost w s.stale) :=
  stale_anyG (some ⟨d, 0, none⟩) s.names (Lib.hid fun W hW => diskNames_any (w := W) (Lib.hid (by
    obtain ⟨loc, blk, bn, bo, rowv, pA, pC, hB⟩ := HA.out
    exact (hB.far hW).at_)) hf) s.stale rfl hsl
end Go.Proofs.YtncpeogkccjmcaaGreatDoor
namespace Go.Proofs.YtncpeogkccjmcaaGreatDoor
open Go.RowKit Go.ChangeShapes Go.WideShapes Go.Deep Go.Shelf
attribute [local go_sem] Oper.semAt_some

namespace Disk
/-- The disk behind the removing of names. -/
def St.gone (s : St) (l : List Nm) : St := l.foldl (fun s n => (s.remove n).1) s
/-- None of them was refused. -/
def St.allGone (s : St) : List Nm → Prop
  | [] => True
  | n :: r => (s.remove n).2 = 0 ∧ St.allGone (s.remove n).1 r
theorem gone_snoc (s : St) (l : List Nm) (n : Nm) : s.gone (l ++ [n]) = ((s.gone l).remove n).1 := by simp [St.gone]
theorem allGone_snoc {n : Nm} : ∀ (l : List Nm) (s : St), s.allGone l → ((s.gone l).remove n).2 = 0 → s.allGone (l ++ [n])
  | [], _, _, h => ⟨h, trivial⟩
  | _ :: r, _, h, h' => ⟨h.1, allGone_snoc r _ h.2 h'⟩
theorem cleanGo_app {r : List Nm} : ∀ (l : List Nm) (s : St), s.allGone l → s.cleanGo (l ++ r) = (s.gone l).cleanGo r
  | [], _, _ => rfl
  | n :: l, s, h => by
    rw [List.cons_append, St.cleanGo, if_pos h.1]
    exact cleanGo_app l _ h.2
theorem cleanGo_all {l : List Nm} {s : St} (h : s.allGone l) : s.cleanGo l = (s.gone l, 0) := by
  have := cleanGo_app (r := []) l s h
  rw [List.append_nil] at this
  rw [this]; rfl
theorem cleanGo_stop {l r : List Nm} {n : Nm} {s : St} (h : s.allGone l) (hn : ((s.gone l).remove n).2 ≠ 0) : s.cleanGo (l ++ n :: r) = (s.gone l).remove n := by
  rw [cleanGo_app l s h, St.cleanGo, if_neg hn]
theorem fine_gone : ∀ (l : List Nm) {s : St}, Fine s → Fine (s.gone l)
  | [], _, h => h
  | n :: r, _, h => fine_gone r (fine_act h (.remove n))
theorem small_gone : ∀ (l : List Nm) {k : Nat} {s : St}, Small k s → Small (k + l.length) (s.gone l)
  | [], _, _, h => h
  | n :: r, k, _, h => by
    have := small_gone r (small_act h (.remove n))
    rw [List.length_cons, show k + (r.length + 1) = k + 1 + r.length by omega]
    exact this
theorem stale_len {s : St} (h : Fine s) : s.stale.length ≤ 64 := by
  refine Nat.le_trans (List.length_filter_le _ _) ?_
  unfold St.names
  split
  · rw [show (keys s.now).length = s.now.length from List.length_map _]; exact h.nowL
  · exact Nat.zero_le _
theorem fine_cleanGo : ∀ (l : List Nm) {s : St}, Fine s → Fine (s.cleanGo l).1
  | [], _, h => h
  | n :: r, s, h => by
    unfold St.cleanGo
    split
    · exact fine_cleanGo r (fine_act h (.remove n))
    · exact fine_act h (.remove n)
theorem small_cleanGo : ∀ (l : List Nm) {k : Nat} {s : St}, Small k s → Small (k + l.length) (s.cleanGo l).1
  | [], _, _, h => h
  | n :: r, k, s, h => by
    have h1 := small_act h (.remove n)
    unfold St.cleanGo
    split
    · have := small_cleanGo r h1
      rw [List.length_cons, show k + (r.length + 1) = k + 1 + r.length by omega]
      exact this
    · exact small_mono h1 (by rw [List.length_cons]; omega)
theorem fine_clean {s : St} (h : Fine s) : Fine s.clean.1 := by
  unfold St.clean
  split
  · exact h
  · split
    · exact fine_cleanGo _ h
    · split
      · exact h
      · exact fine_act (fine_cleanGo _ h) .syncDir
theorem small_clean {s : St} (hf : Fine s) {k : Nat} (h : Small k s) : Small (k + 70) s.clean.1 := by
  have hl := stale_len hf
  unfold St.clean
  split
  · exact small_mono h (by omega)
  · split
    · exact small_mono (small_cleanGo _ h) (by omega)
    · split
      · exact small_mono h (by omega)
      · exact small_mono (small_act (small_cleanGo s.stale h) .syncDir) (by omega)
end Disk

section
variable {w W W' : World} {F : Blocks} {d : Nat} {s : Disk.St} {loc : Nat → Nat} {blk : Nat → Option Nat} {bn bo : Nat} {rowv : Value} {pA : Option Addr} {pC : Nat}
/-- None of a disk's blocks is a block of another kind. -/
theorem DiskB.others (h : DiskB w F d s loc blk bn bo rowv pA pC) (t : TypeId) (h1 : 40 ≠ t) (h2 : 121 ≠ t) (h3 : 123 ≠ t) (h4 : 84 ≠ t) (h5 : 5 ≠ t) : Other w (tightF d s loc blk bn bo rowv pA pC) t := by
  intro b hb
  rcases hb with rfl | rfl | rfl | hb | ⟨h0, hb⟩ | ⟨i, hi, rfl⟩ | ⟨i, hi, hb⟩
  · exact Other.one h.hd h1 _ rfl
  · obtain ⟨es, c, hm⟩ := folder_map h.now; exact Other.map hm _ _ rfl
  · obtain ⟨es, c, hm⟩ := folder_map h.old; exact Other.map hm _ _ rfl
  · exact Other.own h.row h2 _ hb.symm
  · rcases h.plan with hp | hp
    · exact absurd hp.1 h0
    · exact Other.own hp h3 _ hb.symm
  · obtain ⟨A, c, h6, h7⟩ := h.files i _ (List.getElem?_eq_getElem hi); exact Other.one h6 h4 _ rfl
  · obtain ⟨A, c, h6, h7⟩ := h.files i _ (List.getElem?_eq_getElem hi); exact Other.row h7 h5 _ hb.symm
/-- A disk between two rounds of Clean: its blocks, the three boxes. -/
structure Cl (w : World) (F : Blocks) (d : Nat) (loc : Nat → Nat) (blk : Nat → Option Nat) (bn bo : Nat) (pA : Option Addr) (pC : Nat) (t : Disk.St) (res : Int) (any : Bool) (W : World) : Prop where
  at_ : ∃ rowv, DiskB W (tightF d t loc blk bn bo rowv pA pC) d t loc blk bn bo rowv pA pC ∧ ∀ b, tightF d t loc blk bn bo rowv pA pC b → F b ∨ w.heap.size ≤ b
  only : Only F w W
  b1 : Boxed W w.heap.size 25 (.pointer (some ⟨d, 0, none⟩))
  b2 : Boxed W (w.heap.size + 1) 26 (.int .i64 res)
  b3 : Boxed W (w.heap.size + 2) 4 (.bool any)
section
variable {t : Disk.St} {res : Int} {any : Bool}
theorem Cl.turn (h : Cl w F d loc blk bn bo pA pC t res any W) {G : Blocks} (ho : Only G W W') (hG : ∀ b, G b → w.heap.size + 2 < b ∧ bn ≠ b ∧ bo ≠ b ∧ ∀ cs t f, W.heap[b]? ≠ some (.cells cs t f)) : Cl w F d loc blk bn bo pA pC t res any W' := by
  obtain ⟨rowv, hB, hF⟩ := h.at_
  have hb : ∀ b cs t f, W.heap[b]? = some (Obj.cells cs t f) → W'.heap[b]? = W.heap[b]? := fun b cs t f hc => ho.block b (Array.getElem?_eq_some_iff.1 hc).1 fun hg => (hG b hg).2.2.2 _ _ _ hc
  refine ⟨⟨rowv, hB.only ho fun b hb hg => ?_, hF⟩, h.only.trans ho fun x hx => .inr (by have := (hG x hx).1; omega), (hb _ _ _ _ h.b1).trans h.b1, (hb _ _ _ _ h.b2).trans h.b2, (hb _ _ _ _ h.b3).trans h.b3⟩
  obtain ⟨-, h1, h2, h3⟩ := hG b hg
  rcases hB.cells hb with e | e | ⟨cs, t, f, e⟩
  · exact h1 e.symm
  · exact h2 e.symm
  · exact h3 _ _ _ e
theorem Cl.own {β : Type} {B : Nat} (hB : w.heap.size + 2 < B) (hn : bn < B) (ho : bo < B) (f : β → Disk.St) (g : β → Int) (k : β → Bool) : OwnFrom B (fun x W => Cl w F d loc blk bn bo pA pC (f x) (g x) (k x) W) := by
  intro x X Y row h hg hr
  refine h.turn (Only.of_grown hg (fun b => some b = row) fun _ h => h) fun b hb => ?_
  obtain ⟨h1, o, h2, h3⟩ := hr b hb.symm
  refine ⟨by omega, by omega, by omega, fun cs t f e => ?_⟩
  rw [h2] at e; cases e; cases h3
end

theorem DiskB.tight_sub (h : DiskB w F d s loc blk bn bo rowv pA pC) {b : Nat} (hb : tightF d s loc blk bn bo rowv pA pC b) : F b := by
  rcases hb with rfl | rfl | rfl | hb | ⟨h0, hb⟩ | ⟨i, hi, rfl⟩ | ⟨i, hi, hb⟩
  · exact h.Fd
  · exact h.Fn
  · exact h.Fo
  · exact h.Fr b hb
  · exact h.Fp b h0 hb
  · exact h.Fl i hi
  · exact h.Fb i b hi hb
theorem cl_start (H : DiskB w F d s loc blk bn bo rowv pA pC) (hb : Below w.heap.size w W) (b1 : Boxed W w.heap.size 25 (.pointer (some ⟨d, 0, none⟩))) (b2 : Boxed W (w.heap.size + 1) 26 (.int .i64 0)) (b3 : Boxed W (w.heap.size + 2) 4 (.bool false)) : Cl w F d loc blk bn bo pA pC s 0 false W :=
  ⟨⟨rowv, (H.far hb).tight, fun _ hb' => .inl (H.tight_sub hb')⟩, Only.of_below hb F, b1, b2, b3⟩
section
variable {t t' : Disk.St} {res : Int} {any : Bool}
theorem Cl.next (h : Cl w F d loc blk bn bo pA pC t res any W) (hB : DiskB W (tightF d t loc blk bn bo rowv pA pC) d t loc blk bn bo rowv pA pC) (hF : ∀ b, tightF d t loc blk bn bo rowv pA pC b → F b ∨ w.heap.size ≤ b)
    (hd : ∃ rowv', DiskB W' (grow (tightF d t loc blk bn bo rowv pA pC) W W') d t' loc blk bn bo rowv' pA pC) (ho : Only (tightF d t loc blk bn bo rowv pA pC) W W') : Cl w F d loc blk bn bo pA pC t' res any W' := by
  obtain ⟨rowv', hd⟩ := hd
  have hk : ∀ b ty v, Boxed W b ty v → Other W (tightF d t loc blk bn bo rowv pA pC) ty → Boxed W' b ty v := fun b ty v hv hn => (ho.block b hv.lt fun e => hn b e _ _ hv).trans hv
  exact ⟨⟨rowv', hd.tight, fun b hb => (hd.tight_sub hb).elim (hF b) fun hb => .inr (Nat.le_trans h.only.size hb.1)⟩, h.only.trans ho hF,
    hk _ _ _ h.b1 (hB.others _ (by decide) (by decide) (by decide) (by decide) (by decide)), hk _ _ _ h.b2 (hB.others _ (by decide) (by decide) (by decide) (by decide) (by decide)), hk _ _ _ h.b3 (hB.others _ (by decide) (by decide) (by decide) (by decide) (by decide))⟩
theorem boxed_far {W : World} {b g : Nat} {ty : TypeId} {v : Value} (h : Boxed W b ty v) (hne : b ≠ g) (u : Value) : Boxed (W.setCell ⟨g, 0, none⟩ u) b ty v := (Below.heap_setCell _ _ _ _ hne).trans h
theorem Cl.store (h : Cl w F d loc blk bn bo pA pC t res any W) {g : Nat} {ty : TypeId} {v : Value} (hg : Boxed W g ty v) (hw : w.heap.size ≤ g) (h1 : 40 ≠ ty) (h2 : 121 ≠ ty) (h3 : 123 ≠ ty) (h4 : 84 ≠ ty) (h5 : 5 ≠ ty) (u : Value) :
    (∃ rowv, DiskB (W.setCell ⟨g, 0, none⟩ u) (tightF d t loc blk bn bo rowv pA pC) d t loc blk bn bo rowv pA pC ∧ ∀ b, tightF d t loc blk bn bo rowv pA pC b → F b ∨ w.heap.size ≤ b) ∧ Only F w (W.setCell ⟨g, 0, none⟩ u) := by
  obtain ⟨rowv, hB, hF⟩ := h.at_
  refine ⟨⟨rowv, hB.only (Only.setCell (Only.refl (fun b => b = g) W) (.inl rfl) u) fun b hb e => ?_, hF⟩, h.only.setCell (.inr hw) u⟩
  subst e
  exact hB.others ty h1 h2 h3 h4 h5 _ hb _ _ hg
theorem Cl.set3 (h : Cl w F d loc blk bn bo pA pC t res any W) (b : Bool) : Cl w F d loc blk bn bo pA pC t res b (W.setCell ⟨w.heap.size + 2, 0, none⟩ (.bool b)) := by
  obtain ⟨h1, h2⟩ := h.store h.b3 (by omega) (by decide) (by decide) (by decide) (by decide) (by decide) (.bool b)
  exact ⟨h1, h2, boxed_far h.b1 (by omega) _, boxed_far h.b2 (by omega) _, h.b3.set _⟩
theorem Cl.set2 (h : Cl w F d loc blk bn bo pA pC t res any W) (q : Int) : Cl w F d loc blk bn bo pA pC t q any (W.setCell ⟨w.heap.size + 1, 0, none⟩ (.int .i64 q)) := by
  obtain ⟨h1, h2⟩ := h.store h.b2 (by omega) (by decide) (by decide) (by decide) (by decide) (by decide) (.int .i64 q)
  exact ⟨h1, h2, boxed_far h.b1 (by omega) _, h.b2.set _, boxed_far h.b3 (by omega) _⟩
theorem keeps_disk {B : Nat} (hB : DiskB W (tightF d t loc blk bn bo rowv pA pC) d t loc blk bn bo rowv pA pC) (ho : Only (tightF d t loc blk bn bo rowv pA pC) W W') (hn : bn < B) (hm : bo < B) : KeepsFrom B W W' :=
  ⟨ho.size, fun k o hk hko hoc => (ho.block k (Array.getElem?_eq_some_iff.1 hko).1 fun e => by
    rcases hB.cells e with e | e | ⟨cs, ty, f, e⟩
    · omega
    · omega
    · rw [hko] at e; cases e; cases hoc).trans hko⟩
/-- A row of strings. -/
def ProtC (W : World) (b : Nat) : Prop := ∃ cs, W.heap[b]? = some (.cells cs 9 (0, 0))
theorem prot_disk (hB : DiskB W (tightF d t loc blk bn bo rowv pA pC) d t loc blk bn bo rowv pA pC) (ho : Only (tightF d t loc blk bn bo rowv pA pC) W W') {b : Nat} (h : ProtC W b) : ProtC W' b ∧ W'.heap[b]? = W.heap[b]? := by
  obtain ⟨cs, hcs⟩ := h
  have e := ho.block b (Array.getElem?_eq_some_iff.1 hcs).1 fun e => hB.no_str b e _ _ hcs
  exact ⟨⟨cs, e.trans hcs⟩, e⟩
theorem prot_box {g : Nat} {ty : TypeId} {v : Value} (hg : Boxed W g ty v) (hne : ty ≠ 9) (u : Value) {b : Nat} (h : ProtC W b) : ProtC (W.setCell ⟨g, 0, none⟩ u) b ∧ (W.setCell ⟨g, 0, none⟩ u).heap[b]? = W.heap[b]? := by
  obtain ⟨cs, hcs⟩ := h
  have e : (W.setCell ⟨g, 0, none⟩ u).heap[b]? = W.heap[b]? := Below.heap_setCell _ _ _ _ (ne_cells hcs hg fun e => hne e.symm)
  exact ⟨⟨cs, e.trans hcs⟩, e⟩
/-- Between the rounds. -/
def ClI (w : World) (F : Blocks) (d : Nat) (s : Disk.St) (loc : Nat → Nat) (blk : Nat → Option Nat) (bn bo : Nat) (pA : Option Addr) (pC : Nat) (pre : List TmpNm) (W : World) : Prop :=
  s.allGone (pre.map fun x => x.1) ∧ Cl w F d loc blk bn bo pA pC (s.gone (pre.map fun x => x.1)) 0 (!pre.isEmpty) W
/-- Where one was refused. -/
def ClX (w : World) (F : Blocks) (d : Nat) (s : Disk.St) (loc : Nat → Nat) (blk : Nat → Option Nat) (bn bo : Nat) (pA : Option Addr) (pC : Nat) (c : Code) (pre : List TmpNm) (W : World) : Prop :=
  ∃ (pre0 : List TmpNm) (x : TmpNm), c = .ret ∧ pre = pre0 ++ [x] ∧ s.allGone (pre0.map fun x => x.1) ∧ ((s.gone (pre0.map fun x => x.1)).remove x.1).2 ≠ 0 ∧ Cl w F d loc blk bn bo pA pC ((s.gone (pre0.map fun x => x.1)).remove x.1).1 ((s.gone (pre0.map fun x => x.1)).remove x.1).2 (!pre0.isEmpty) W
theorem clI_own {B : Nat} (hB : w.heap.size + 2 < B) (hn : bn < B) (ho : bo < B) : OwnFrom B (ClI w F d s loc blk bn bo pA pC) := fun pre X Y row h hg hr =>
  ⟨h.1, Cl.own hB hn ho (fun _ : Unit => s.gone (pre.map fun x => x.1)) (fun _ => 0) (fun _ => !pre.isEmpty) () X Y row h.2 hg hr⟩
theorem clX_own {B : Nat} (hB : w.heap.size + 2 < B) (hn : bn < B) (ho : bo < B) (c : Code) : OwnFrom B (ClX w F d s loc blk bn bo pA pC c) := fun _ X Y row ⟨pre0, x, h1, h2, h3, h4, h5⟩ hg hr =>
  ⟨pre0, x, h1, h2, h3, h4, Cl.own hB hn ho (fun _ : Unit => ((s.gone (pre0.map fun x => x.1)).remove x.1).1) (fun _ => ((s.gone (pre0.map fun x => x.1)).remove x.1).2) (fun _ => !pre0.isEmpty) () X Y row h5 hg hr⟩
end
theorem Cl.ends {t : Disk.St} {res : Int} {any : Bool} (h : Cl w F d loc blk bn bo pA pC t res any W) (hlt : ∀ b, F b → b < w.heap.size) : DiskAt W (grow F w W) d t := by
  obtain ⟨rowv, hB, hF⟩ := h.at_
  exact (hB.up (fun b hb => (hF b hb).elim .inl fun h => .inr ⟨h, hB.lt b hb⟩) (grow_lt hlt h.only.size)).at_
theorem Cl.put {t : Disk.St} {res : Int} {any : Bool} (h : Cl w F d loc blk bn bo pA pC t res any W) {D : Nat} {o : Obj} (hD : w.heap.size + 2 < D) (hn : bn < D) (hm : bo < D) (hK : W.heap[D]? = some o) (ho : o.isCells = false) (o' : Obj) : Cl w F d loc blk bn bo pA pC t res any (W.putObj D o') :=
  h.turn (Only.of_grown (grownBy_putObj' W D o') (fun b => b = D) fun b hb => by cases hb; rfl) fun b hb => by
    subst hb
    exact ⟨hD, by omega, by omega, fun cs t f e => by rw [hK] at e; cases e; cases ho⟩
theorem errno_result {fn : Func} {p : Tmp} {tmps : Array Value} (h : fn.results = #[.cell p 26]) (g : Nat) (u : World) (v : Value) (hp : tmps.getD p undef = .pointer (some ⟨g, 0, none⟩)) (hc : u.cell? ⟨g, 0, none⟩ = some v) :
    (results fn tmps).run Tryz.prog u = .ok v u := by
  have hp' : tmps[p]?.getD undef = .pointer (some ⟨g, 0, none⟩) := by simpa using hp
  have hagg : (isAgg 26).run Tryz.prog u = .ok false u := by
    unfold isAgg
    rw [Sem.run_bind, run_underlying Tryz.underlying26 u]
    rfl
  simp [results, h, hp', asAddr, loadVar, Sem.run_bind, hagg, hc]
set_option maxRecDepth 100000 in
set_option maxHeartbeats 4000000 in
theorem clean_on (HA : Hid (DiskAt w F d s)) (hf : Hid (Disk.Fine s)) {k : Nat} (hk : Hid (Disk.Small k s)) (hkb : k + 100 ≤ 1099511627776) (hon : Hid (s.on = true)) :
    Calls Tryz.prog 8 #[.pointer (some ⟨d, 0, none⟩)] w (DiskCall w F d s.clean) := by
  obtain ⟨loc, blk, bn, bo, rowv, pA, pC, hB⟩ := HA.out
  have H := Lib.hid hB
  clear hB
  have hbn := H.out.lt _ H.out.Fn
  have hbo := H.out.lt _ H.out.Fo
  have HP : Hid (∀ W, Below w.heap.size w W → Calls Tryz.prog 27 #[.pointer (some ⟨d, 0, none⟩)] W fun e w' => e = .returned (.bool true) ∧ W = w') := Lib.hid fun W hW => by
    have h := power_any (Lib.hid (H.out.far hW).at_)
    rw [hon.out] at h
    exact h
  refine (callsIn_wide (n := 5)).1 ?_
  refine callsIn_of_wp_marks Tryz.func8 rfl trivial ?_ rfl
  simp only [Tryz.ntmps8, List.size_toArray, List.length_cons, List.length_nil, Nat.reduceAdd, Nat.reduceSub, Array.replicate_succ, Array.replicate_zero, List.push_toArray, List.append_toArray, List.nil_append, List.cons_append]
  gi_wp2_with (first
    | (refine ⟨trivial, ?_⟩; gi_at_call 27; refine (callsIn_wide.2 (HP.out _ (Below.alloc (Below.alloc (Below.refl _ _) (Nat.le_refl _) _) (by simp) _))).mono ?_; rintro e w' ⟨rfl, rfl⟩)
    | (refine ⟨trivial, ?_⟩; gi_at_call 29; refine (callsIn_wide.2 (stale_maker _ _)).mono ?_; rintro e w' ⟨rfl, rfl⟩))
  refine wpIn_gen (fun W0 => Cl w F d loc blk bn bo pA pC s 0 false W0 ∧ Boxed W0 (w.heap.size + 1 + 1 + 1) 25 (.pointer (some ⟨d, 0, none⟩)) ∧ W0.heap.size = w.heap.size + 4) ?start ?_
  case start =>
    have b1 := Boxed.new w 25 (.pointer (some ⟨d, 0, none⟩))
    have b2 := Boxed.new (w.alloc (.cells #[.pointer (some ⟨d, 0, none⟩)] 25)) 26 (.int .i64 0)
    have b3 := Boxed.new ((w.alloc (.cells #[.pointer (some ⟨d, 0, none⟩)] 25)).alloc (.cells #[.int .i64 0] 26)) 4 (.bool false)
    have b4 := Boxed.new (((w.alloc (.cells #[.pointer (some ⟨d, 0, none⟩)] 25)).alloc (.cells #[.int .i64 0] 26)).alloc (.cells #[.bool false] 4)) 25 (.pointer (some ⟨d, 0, none⟩))
    simp only [World.size_alloc] at b2 b3 b4
    exact ⟨cl_start H.out (Below.alloc (Below.alloc (Below.alloc (Below.alloc (Below.refl _ _) (Nat.le_refl _) _) (by simp) _) (by simp; omega) _) (by simp; omega) _) (((b1.alloc _).alloc _).alloc _) ((b2.alloc _).alloc _) (b3.alloc _), b4, by simp⟩
  rintro W0 ⟨hcl0, bN, hsz0⟩
  have HD0 : Hid (DiskAt W0 (grow F w W0) d s) := Lib.hid (hcl0.ends H.out.lt)
  have hbn0 : bn < W0.heap.size := by omega
  have hbo0 : bo < W0.heap.size := by omega
  refine wpIn_rangeFunc_ownG rfl (by omega) (gf := 87) (lb := #[.pointer (some ⟨w.heap.size + 1 + 1 + 1, 0, none⟩)]) rfl trivial (enters_of Tryz.func87 (by kernel_rfl) rfl)
    (stale_stops _ (by omega) d (w.heap.size + 1 + 1 + 1) s (grow F w W0) W0 HD0 hf bN.cell bN.lt ProtC (Lib.hid fun W W' b cs h1 h2 hb hc => ⟨cs, hc⟩)) (fun h k b hb => ⟨(k b (h b hb).1).1, (k b (h b hb).1).2.trans (h b hb).2⟩) (fun W l o o' _ hl ho _ b hb => ?kb) (Below.refl _ _) (fun _ => rfl)
    (ClI w F d s loc blk bn bo pA pC) (ClX w F d s loc blk bn bo pA pC)
    (clI_own (by omega) hbn0 hbo0) (clX_own (by omega) hbn0 hbo0)
    ⟨trivial, hcl0⟩
    (fun x => { tmps := #[.pointer (some ⟨d, 0, none⟩), .pointer (some ⟨w.heap.size, 0, none⟩), .pointer (some ⟨w.heap.size + 1, 0, none⟩), .pointer (some ⟨w.heap.size + 1 + 1, 0, none⟩), .string (ba x.1), undef, .pointer (some ⟨d, 0, none⟩), .bool true, .bool false, undef, undef, .pointer (some ⟨d, 0, none⟩), .func (.func 87) #[] #[.pointer (some ⟨w.heap.size + 1 + 1 + 1, 0, none⟩)], .string (ba x.1), undef, undef, undef, undef, undef, undef, undef, undef, undef, undef], defers := [] }) ?assign ?body ?done ?stop
  case kb =>
    obtain ⟨cs, hcs⟩ := hb
    have hbl : b ≠ l := fun e => by subst e; rw [hcs] at hl; cases hl; cases ho
    have e1 : (W.putObj l o').heap[b]? = W.heap[b]? := World.putObj_heap_other hbl
    exact ⟨⟨cs, e1.trans hcs⟩, e1⟩
  case assign =>
    intro l x W K hK
    gi_wp2
    exact hK
  case body =>
    rintro l pre x W ⟨hag, hcl⟩ hlt
    have c1 := hcl.b1.cell
    have c2 := hcl.b2.cell
    have f2 := hcl.b2.frozen
    obtain ⟨rowv, hB, hF⟩ := hcl.at_
    have hsl := Disk.stale_len hf.out
    have HRM0 := remove_at (w := W) (ba x.1) (by rw [ba_size]; exact x.2.2) (Lib.hid hB) (Lib.hid (Disk.fine_gone (pre.map fun x => x.1) hf.out)) (Lib.hid (Disk.small_gone (pre.map fun x => x.1) hk.out)) (by simp; omega)
    rw [show (ba x.1).data.toList = x.1 from rfl] at HRM0
    obtain ⟨r, hr⟩ : ∃ r, r = (s.gone (pre.map fun x => x.1)).remove x.1 := ⟨_, rfl⟩
    rw [← hr] at HRM0
    obtain ⟨q, hq⟩ : ∃ q, q = r.2 := ⟨_, rfl⟩
    unfold DiskCallB at HRM0
    rw [← hq] at HRM0
    have HRM := Lib.hid HRM0
    have HR := Lib.hid hr
    have HQ := Lib.hid hq
    have HCL := Lib.hid hcl
    have HB := Lib.hid hB
    have HF := Lib.hid hF
    have HAG := Lib.hid hag
    clear HRM0 hr hq hcl hB hF hag c2 f2
    by_cases hq0 : q = 0
    · subst hq0
      gi_wp2_with (refine ⟨trivial, ?_⟩; gi_at_call 30; refine (CallsIn.inRound l (callsIn_wide.2 HRM.out)).mono ?_; rintro e w9 ⟨rfl, hd, ho⟩; have HCL9 := Lib.hid (HCL.out.next HB.out HF.out hd ho); have HO9 := Lib.hid ho; have c3 : w9.cell? ⟨w.heap.size + 1 + 1, 0, none⟩ = some (.bool (!pre.isEmpty)) := HCL9.out.b3.cell; have f3 : w9.frozen? ⟨w.heap.size + 1 + 1, 0, none⟩ = false := HCL9.out.b3.frozen; clear hd ho)
      refine ⟨(keeps_disk HB.out HO9.out hbn0 hbo0).trans ((KeepsOthers.setCell _ _ _).from _), fun b hb => ?_, ?_, ?_⟩
      · have a := prot_disk HB.out HO9.out hb
        have c := prot_box HCL9.out.b3 (by decide) (.bool true) a.1
        exact ⟨c.1, c.2.trans a.2⟩
      · rw [List.map_append]
        exact Disk.allGone_snoc _ _ HAG.out (by rw [← HR.out]; exact HQ.out.symm)
      · rw [List.map_append, show [x].map (fun x : TmpNm => x.1) = [x.1] from rfl, Disk.gone_snoc, ← HR.out, show (!(pre ++ [x]).isEmpty) = true by simp]
        exact HCL9.out.set3 true
    · have hqb : (q != 0) = true := bne_iff_ne.2 hq0
      gi_wp2_with (refine ⟨trivial, ?_⟩; gi_at_call 30; refine (CallsIn.inRound l (callsIn_wide.2 HRM.out)).mono ?_; rintro e w9 ⟨rfl, hd, ho⟩; have HCL9 := Lib.hid (HCL.out.next HB.out HF.out hd ho); have HO9 := Lib.hid ho; have c2 : w9.cell? ⟨w.heap.size + 1, 0, none⟩ = some (.int .i64 0) := HCL9.out.b2.cell; have f2 : w9.frozen? ⟨w.heap.size + 1, 0, none⟩ = false := HCL9.out.b2.frozen; clear hd ho)
      refine ⟨(keeps_disk HB.out HO9.out hbn0 hbo0).trans ((KeepsOthers.setCell _ _ _).from _), pre, x, rfl, rfl, HAG.out, by rw [← HR.out, ← HQ.out]; exact hq0, ?_⟩
      rw [← HR.out, ← HQ.out]
      exact HCL9.out.set2 q
  case done =>
    rintro D ys W hD hS ⟨hag, hcl⟩ hK
    have hS' : ys.map (fun x => x.1) = s.stale := hS
    rw [hS'] at hag hcl
    have c1 := hcl.b1.cell
    have c3 : W.cell? ⟨w.heap.size + 1 + 1, 0, none⟩ = some (.bool (!ys.isEmpty)) := hcl.b3.cell
    have c2 : W.cell? ⟨w.heap.size + 1, 0, none⟩ = some (.int .i64 0) := hcl.b2.cell
    have f2 : W.frozen? ⟨w.heap.size + 1, 0, none⟩ = false := hcl.b2.frozen
    have hgo := Disk.cleanGo_all hag
    by_cases hys : ys = []
    · subst hys
      have hst : s.stale = [] := hS'.symm
      have hcln : s.clean = (s, 0) := by
        unfold Disk.St.clean
        rw [if_neg (by simp [hon.out]), if_neg (by rw [hgo]; simp), if_pos hst]
      rw [hst] at hcl
      have HCL := Lib.hid hcl
      have HCLN := Lib.hid hcln
      clear hgo hag hcl hcln hS hS' hst
      gi_wp2
      have hcl2 : Cl w F d loc blk bn bo pA pC s 0 false (W.setCell ⟨w.heap.size + 1, 0, none⟩ (.int .i64 0)) := HCL.out.set2 0
      have hK2 : (W.setCell ⟨w.heap.size + 1, 0, none⟩ (.int .i64 0)).heap[D]? = some (.deferred (some [])) := (KeepsOthers.setCell _ _ _).same D _ hK rfl
      refine ⟨by simp, .inl ⟨_, _, rfl, run_takeDeferred hK2, ?_⟩⟩
      have hcl3 := hcl2.put (by omega) (by omega) (by omega) hK2 rfl (.deferred none)
      refine ⟨_, errno_result rfl _ _ _ rfl hcl3.b2.cell, ?_⟩
      rw [HCLN.out]
      exact ⟨rfl, hcl3.ends H.out.lt, hcl3.only⟩
    · obtain ⟨rowv, hB, hF⟩ := hcl.at_
      have hyb : ys.isEmpty = false := by cases ys with | nil => exact absurd rfl hys | cons _ _ => rfl
      rw [hyb] at c3
      have hsl := Disk.stale_len hf.out
      have hcln : s.clean = (s.gone s.stale).syncDir := by
        unfold Disk.St.clean
        rw [if_neg (by simp [hon.out]), if_neg (by rw [hgo]; simp), if_neg (fun e => hys (by rw [e] at hS'; exact List.map_eq_nil_iff.1 hS')), hgo]
      have HSD0 := syncDir_any (w := W) (Lib.hid hB.at_) (Lib.hid (Disk.fine_gone s.stale hf.out)) (Lib.hid (Disk.small_gone s.stale hk.out)) (by omega)
      rw [← hcln] at HSD0
      obtain ⟨q, hq⟩ : ∃ q, q = s.clean.2 := ⟨_, rfl⟩
      unfold DiskCall at HSD0
      rw [← hq] at HSD0
      have HSD := Lib.hid HSD0
      have HQ := Lib.hid hq
      have HCL := Lib.hid hcl
      have HB := Lib.hid hB
      have HF := Lib.hid hF
      have HK := Lib.hid hK
      clear HSD0 hq hcl hB hF hcln hgo hag hS hS' c2 f2 hK
      gi_wp2_with (refine ⟨trivial, ?_⟩; gi_at_call 28; refine (callsIn_wide.2 HSD.out).mono ?_; rintro e w9 ⟨rfl, hd, ho⟩; have HD9 := Lib.hid hd; have HO9 := Lib.hid ho; have hb9 : Boxed w9 (w.heap.size + 1) 26 (.int .i64 0) := (ho.block _ HCL.out.b2.lt fun e => HB.out.others 26 (by decide) (by decide) (by decide) (by decide) (by decide) _ e _ _ HCL.out.b2).trans HCL.out.b2; have HB9 := Lib.hid hb9; have c2 : w9.cell? ⟨w.heap.size + 1, 0, none⟩ = some (.int .i64 0) := HB9.out.cell; have f2 : w9.frozen? ⟨w.heap.size + 1, 0, none⟩ = false := HB9.out.frozen; clear hd ho hb9)
      have hK9 : w9.heap[D]? = some (.deferred (some [])) := (keeps_disk HB.out HO9.out hbn0 hbo0).same D _ hD HK.out rfl
      have hDl := (Array.getElem?_eq_some_iff.1 HK.out).1
      have hnt : ∀ b, b = w.heap.size + 1 ∨ b = D → ¬ grow (tightF d (s.gone s.stale) loc blk bn bo rowv pA pC) W w9 b := by
        intro b hb hg
        rcases hg with hg | ⟨hg, -⟩
        · rcases hb with rfl | rfl
          · exact HB.out.others 26 (by decide) (by decide) (by decide) (by decide) (by decide) _ hg _ _ HCL.out.b2
          · rcases HB.out.cells hg with e | e | ⟨cs, ty, f, e⟩
            · omega
            · omega
            · rw [HK.out] at e; cases e
        · rcases hb with rfl | rfl
          · have := HCL.out.b2.lt; omega
          · omega
      have hK2 : (w9.setCell ⟨w.heap.size + 1, 0, none⟩ (.int .i64 q)).heap[D]? = some (.deferred (some [])) := (KeepsOthers.setCell _ _ _).same D _ hK9 rfl
      refine ⟨by simp, .inl ⟨_, _, rfl, run_takeDeferred hK2, ?_⟩⟩
      refine ⟨_, errno_result rfl (w.heap.size + 1) _ (.int .i64 q) rfl ?_, ?_⟩
      · have h1 : Boxed (w9.setCell ⟨w.heap.size + 1, 0, none⟩ (.int .i64 q)) (w.heap.size + 1) 26 (.int .i64 q) := HB9.out.set _
        exact Boxed.cell (t := 26) ((World.putObj_heap_other (by omega)).trans h1)
      · have ho2 : Only (fun b => b = w.heap.size + 1 ∨ b = D) w9 ((w9.setCell ⟨w.heap.size + 1, 0, none⟩ (.int .i64 q)).putObj D (.deferred none)) :=
          (Only.setCell (Only.refl _ w9) (.inl (.inl rfl)) _).trans (Only.of_grown (grownBy_putObj' _ D _) (fun b => b = w.heap.size + 1 ∨ b = D) fun b hb => by cases hb; exact .inr rfl) fun x hx => .inl hx
        refine ⟨by rw [HQ.out], ?_, ?_⟩
        · obtain ⟨loc', blk', bn', bo', rowv', pA', pC', h9⟩ := HD9.out
          have h10 := h9.only ho2 fun b hb e => hnt b e hb
          refine (h10.up (G := grow F w _) (fun b hb => ?_) (grow_lt H.out.lt (Nat.le_trans (Nat.le_trans HCL.out.only.size HO9.out.size) ho2.size))).at_
          have hlt := h10.lt b hb
          rcases hb with hb | hb
          · rcases HF.out b hb with h | h
            · exact .inl h
            · exact .inr ⟨h, hlt⟩
          · exact .inr ⟨Nat.le_trans HCL.out.only.size hb.1, hlt⟩
        · refine (HCL.out.only.trans HO9.out HF.out).trans ho2 fun x hx => .inr ?_
          rcases hx with rfl | rfl
          · omega
          · omega
  case stop =>
    rintro D c pre W hD hSp ⟨pre0, x, rfl, rfl, hag, hq, hcl⟩ hK
    have hcln : s.clean = (s.gone (pre0.map fun x => x.1)).remove x.1 := by
      obtain ⟨rest, hrest⟩ := hSp
      have h1 : s.cleanGo s.stale = (s.gone (pre0.map fun x => x.1)).remove x.1 := by
        rw [← hrest, List.map_append, List.append_assoc]
        exact Disk.cleanGo_stop hag hq
      unfold Disk.St.clean
      rw [if_neg (by simp [hon.out]), if_pos (by rw [h1]; exact hq), h1]
    have HCLN := Lib.hid hcln
    have HCL := Lib.hid hcl
    clear hcln hcl hSp hag hq
    gi_wp2
    refine ⟨by simp, .inl ⟨_, _, rfl, run_takeDeferred hK, ?_⟩⟩
    have hcl3 := HCL.out.put (by omega) (by omega) (by omega) hK rfl (.deferred none)
    refine ⟨_, errno_result rfl _ _ _ rfl hcl3.b2.cell, ?_⟩
    rw [HCLN.out]
    exact ⟨rfl, hcl3.ends H.out.lt, hcl3.only⟩
set_option maxRecDepth 100000 in
set_option maxHeartbeats 4000000 in
theorem clean_off (HA : Hid (DiskAt w F d s)) (hf : Hid (Disk.Fine s)) {k : Nat} (hk : Hid (Disk.Small k s)) (hkb : k + 100 ≤ 1099511627776) (hon : Hid (s.on = false)) :
    Calls Tryz.prog 8 #[.pointer (some ⟨d, 0, none⟩)] w (DiskCall w F d s.clean) := by
  obtain ⟨loc, blk, bn, bo, rowv, pA, pC, hB⟩ := HA.out
  have H := Lib.hid hB
  clear hB
  have HP : Hid (∀ W, Below w.heap.size w W → Calls Tryz.prog 27 #[.pointer (some ⟨d, 0, none⟩)] W fun e w' => e = .returned (.bool false) ∧ W = w') := Lib.hid fun W hW => by
    have h := power_any (Lib.hid (H.out.far hW).at_)
    rw [hon.out] at h
    exact h
  obtain ⟨W, hW⟩ : ∃ W, W = (w.alloc (.cells #[.pointer (some ⟨d, 0, none⟩)] 25)).alloc (.cells #[.int .i64 0] 26) := ⟨_, rfl⟩
  have hbW : Below w.heap.size w W := by rw [hW]; exact Below.alloc (Below.alloc (Below.refl _ _) (Nat.le_refl _) _) (by simp) _
  have b1 : Boxed W w.heap.size 25 (.pointer (some ⟨d, 0, none⟩)) := by rw [hW]; exact (Boxed.new w _ _).alloc _
  have b2 : Boxed W (w.heap.size + 1) 26 (.int .i64 0) := by
    rw [hW]
    have := Boxed.new (w.alloc (.cells #[.pointer (some ⟨d, 0, none⟩)] 25)) 26 (.int .i64 0)
    rwa [World.size_alloc] at this
  have hcln : s.clean = (s, 24) ∧ s.syncDir = (s, 24) := by
    refine ⟨by unfold Disk.St.clean; rw [if_pos hon.out], ?_⟩
    have h1 : s.looked [] [] = 24 := by simp [Disk.St.looked, hon.out]
    unfold Disk.St.syncDir Disk.St.call
    rw [if_pos (by rw [h1]; decide), h1]
  have HT := Lib.hid (H.out.far hbW).tight
  have HSD0 := syncDir_any (w := W) (Lib.hid HT.out.at_) hf hk (by omega)
  rw [hcln.2, show DiskCall W (tightF d s loc blk bn bo rowv pA pC) d (s, (24 : Int)) = fun e w' => e = .returned (.int .i64 24) ∧ DiskAt w' (grow (tightF d s loc blk bn bo rowv pA pC) W w') d s ∧ Only (tightF d s loc blk bn bo rowv pA pC) W w' from rfl] at HSD0
  have HSD := Lib.hid HSD0
  have HB2 := Lib.hid b2
  have HBW := Lib.hid hbW
  have c1 := b1.cell
  have HP2 := Lib.hid (HP.out W hbW)
  have HCLN := Lib.hid hcln.1
  clear HSD0 hcln HP b1 b2 hbW
  refine (callsIn_wide (n := 5)).1 ?_
  refine callsIn_of_wp_marks Tryz.func8 rfl trivial ?_ rfl
  simp only [Tryz.ntmps8, List.size_toArray, List.length_cons, List.length_nil, Nat.reduceAdd, Nat.reduceSub, Array.replicate_succ, Array.replicate_zero, List.push_toArray, List.append_toArray, List.nil_append, List.cons_append]
  gi_wp2_with fail
  rw [← hW]
  clear hW
  gi_wp2_with (first
    | (refine ⟨trivial, ?_⟩; gi_at_call 27; refine (callsIn_wide.2 HP2.out).mono ?_; rintro e w' ⟨rfl, rfl⟩)
    | (refine ⟨trivial, ?_⟩; gi_at_call 28; refine (callsIn_wide.2 HSD.out).mono ?_; rintro e w9 ⟨rfl, hd, ho⟩; have HD9 := Lib.hid hd; have HO9 := Lib.hid ho; have hb9 : Boxed w9 (w.heap.size + 1) 26 (.int .i64 0) := (ho.block _ HB2.out.lt fun e => HT.out.others 26 (by decide) (by decide) (by decide) (by decide) (by decide) _ e _ _ HB2.out).trans HB2.out; have HB9 := Lib.hid hb9; have c2 : w9.cell? ⟨w.heap.size + 1, 0, none⟩ = some (.int .i64 0) := HB9.out.cell; have f2 : w9.frozen? ⟨w.heap.size + 1, 0, none⟩ = false := HB9.out.frozen; clear hd ho hb9))
  refine ⟨_, errno_result rfl (w.heap.size + 1) _ (.int .i64 24) rfl ?_, ?_⟩
  · exact Boxed.cell (t := 26) (HB9.out.set _)
  · have ho2 : Only (fun b => b = w.heap.size + 1) w9 (w9.setCell ⟨w.heap.size + 1, 0, none⟩ (.int .i64 24)) := Only.setCell (Only.refl (fun b => b = w.heap.size + 1) w9) (.inl rfl) _
    have hnt : ¬ grow (tightF d s loc blk bn bo rowv pA pC) W w9 (w.heap.size + 1) := by
      rintro (hg | ⟨hg, -⟩)
      · exact HT.out.others 26 (by decide) (by decide) (by decide) (by decide) (by decide) _ hg _ _ HB2.out
      · have := HB2.out.lt; omega
    rw [HCLN.out]
    refine ⟨rfl, ?_, ?_⟩
    · obtain ⟨loc', blk', bn', bo', rowv', pA', pC', h9⟩ := HD9.out
      have h10 := h9.only ho2 fun b hb e => hnt (e ▸ hb)
      refine (h10.up (G := grow F w _) (fun b hb => ?_) (grow_lt H.out.lt (Nat.le_trans (Nat.le_trans HBW.out.size HO9.out.size) ho2.size))).at_
      have hlt := h10.lt b hb
      rcases hb with hb | hb
      · exact .inl (H.out.tight_sub hb)
      · exact .inr ⟨Nat.le_trans HBW.out.size hb.1, hlt⟩
    · exact ((Only.of_below HBW.out F).trans HO9.out fun x hx => .inl (H.out.tight_sub hx)).trans ho2 fun x hx => .inr (by subst hx; omega)
theorem clean_any (HA : Hid (DiskAt w F d s)) (hf : Hid (Disk.Fine s)) {k : Nat} (hk : Hid (Disk.Small k s)) (hkb : k + 100 ≤ 1099511627776) :
    Calls Tryz.prog 8 #[.pointer (some ⟨d, 0, none⟩)] w (DiskCall w F d s.clean) := by
  cases h : s.on
  · exact clean_off HA hf hk hkb (Lib.hid h)
  · exact clean_on HA hf hk hkb (Lib.hid h)
end
end Go.Proofs.YtncpeogkccjmcaaGreatDoor
