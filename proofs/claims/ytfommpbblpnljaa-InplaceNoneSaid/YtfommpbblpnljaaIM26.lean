/- Texts that lead to the claim, one behind the other: temps.Stale: the walk. Conditions: none. -/
import Derived.Test.YtfommpbblpnljaaIM25
namespace Go.Proofs.Ytfommpbblpnljaa
open Go.RowKit Go.ChangeShapes Go.WideShapes Go.Deep Go.Shelf
attribute [local go_sem] Oper.semAt_some

theorem wpListIn_append_Own {α : Type} {Fc : Fence} {n : Nat} {P : Program} (w : World) {ops : Array Oper} {rest : List Oper} {o : Oper} {a : Act} {Q : Exit → Act → World → Prop} (hgd : o.guard = none) (s x : Operand) (t : TypeId)
    (ho : o.op = .call { callee := .builtin .append, args := #[s, x], argTypes := #[t, t] })
    (r : Rep α) (base : Nat) (e : TypeId) (bytes : Nat) (hT : SliceType P t e r.n bytes) (v : Value) (l : List α) (hs : a.eval s = v) (hown : Own r e w base nob v l)
    (S2 : Blocks) (A : Option Addr) (c k : Nat) (m : List α) (hx : a.eval x = .slice A k c) (hk : m.length = k) (hm : SliceAt r w S2 A c m) 
    (hflat : ∀ cs x, r.is w S2 cs x → r.is w nob cs x) (hbytes : (l.length + m.length) * bytes ≤ 140737488355328) (hlen : l.length + m.length ≤ 9223372036854775807) (hbase : base ≤ w.heap.size)
    (h : ∀ v' w', Own r e w' base nob v' (l ++ m) → w.grownBy w' v.ownBlock → (v'.ownBlock = v.ownBlock ∨ v'.ownBlock = some w.heap.size) → wpListIn Fc n P ops Q rest (a.put o.dst v') w') : wpListIn Fc n P ops Q (o :: rest) a w := by
  subst hk
  refine wpListIn_plain hgd fun K hK' => ?_
  obtain ⟨v', w', hrun, h2, h3, h4⟩ := run_append_Own (P := P) w r base t o.type e bytes hT nob v l hown S2 A c m hm nob (fun _ h => h.elim) (fun _ h => h) hflat hbytes hlen hbase
  unfold Oper.wpIn
  refine ⟨by simp [Oper.about, ho, resolve, Target.leads, Sem.run_pure], ?_⟩
  rw [Oper.semAt_plain Fc _ _ (by rw [ho]; intro c hc'; cases hc')]
  simp [execOp, ho, resolve, invoke, builtin, hs, hx, hrun, Result.andThen]
  exact hK' _ _ (h v' w' h2 h3 h4)
theorem wpIn_gen {Fc : Fence} {n : Nat} {P : Program} {c : Code} {Q : Exit → Act → World → Prop} {a : Act} {w0 : World} (R : World → Prop) (h0 : R w0) (h : ∀ W, R W → c.wpIn Fc n P Q a W) : c.wpIn Fc n P Q a w0 := h _ h0
/-- A row of strings, protected where the box does not hold it. -/
def ProtS (B : Nat) (W : World) (b : Nat) : Prop := (∃ cs, W.heap[b]? = some (.cells cs 9 (0, 0))) ∧ ∃ v, Boxed W B 64 v ∧ v.ownBlock ≠ some b
/-- What lies in the box between the rounds. -/
def CollI (w : World) (pre : List TmpNm) (W : World) : Prop :=
  (∃ v, Boxed W w.heap.size 64 v ∧ W.ownsRow w.heap.size 9 1 v pre.length (pre.map fun x => .string (ba x.1)) ∧ True) ∧ Below w.heap.size w W
theorem own_of_row {W : World} {base : Nat} {v : Value} {pre : List TmpNm} (h : W.ownsRow base 9 1 v pre.length (pre.map fun x => .string (ba x.1))) : Own Rep.str 9 W base nob v ((pre.map fun x => x.1).map ba) := by
  refine strs_own ?_ fun x hx => ?_
  · simpa [List.map_map, Function.comp_def] using h
  · obtain ⟨y, hy, rfl⟩ := List.mem_map.1 hx
    obtain ⟨z, -, rfl⟩ := List.mem_map.1 hy
    rw [ba_size]
    exact z.2.2
theorem coll_row {W : World} {base : Nat} {v' : Value} {pre : List TmpNm} {x : TmpNm} (h : Own Rep.str 9 W base nob v' ((pre.map fun x => x.1).map ba ++ [ba x.1])) : W.ownsRow base 9 1 v' (pre ++ [x]).length ((pre ++ [x]).map fun x => .string (ba x.1)) := by
  have := own_strs h
  simpa [List.map_map, Function.comp_def] using this
theorem coll_keep {W w1 : World} {B : Nat} {v v' : Value} {ob : Obj} (hv : Boxed W B 64 v) (hg : (W.alloc ob).grownBy w1 v.ownBlock) (hat : v'.ownBlock = v.ownBlock ∨ v'.ownBlock = some (W.alloc ob).heap.size) (hv2 : Boxed (w1.setCell ⟨B, 0, none⟩ v') B 64 v') :
    ∀ b, ProtS B W b → ProtS B (w1.setCell ⟨B, 0, none⟩ v') b ∧ (w1.setCell ⟨B, 0, none⟩ v').heap[b]? = W.heap[b]? := by
  rintro b ⟨⟨cs, hcs⟩, u, hu, hub⟩
  have huv : u = v := by
    have := (show W.heap[B]? = _ from hu).symm.trans hv
    simpa using this
  subst huv
  have hbl := (Array.getElem?_eq_some_iff.1 hcs).1
  have hbB : b ≠ B := fun e => by
    subst e
    rw [show W.heap[b]? = _ from hv] at hcs
    simp at hcs
  have e1 : (w1.setCell ⟨B, 0, none⟩ v').heap[b]? = W.heap[b]? :=
    (Below.heap_setCell _ _ _ _ hbB).trans ((hg.block b (by simp; omega) fun e => hub e.symm).trans (Below.heap_alloc _ _ _ hbl))
  refine ⟨⟨⟨cs, e1.trans hcs⟩, v', hv2, ?_⟩, e1⟩
  rcases hat with e | e <;> rw [e]
  · exact hub
  · simp; omega
set_option maxRecDepth 100000 in
set_option maxHeartbeats 4000000 in
theorem stale_any {F : Blocks} {d : Nat} {s : Disk.St} {w : World} (HA : Hid (DiskAt w F d s)) (hf : Hid (Disk.Fine s)) (hsl : s.stale.length ≤ 64) : Calls Try.prog 23 #[.pointer (some ⟨d, 0, none⟩)] w (StrsPost w s.stale) := by
  refine (callsIn_wide (n := 5)).1 ?_
  refine callsIn_of_wp_marks Try.func23 rfl trivial ?_ rfl
  simp only [Try.ntmps23, List.size_toArray, List.length_cons, List.length_nil, Nat.reduceAdd, Nat.reduceSub, Array.replicate_succ, Array.replicate_zero, List.push_toArray, List.append_toArray, List.nil_append, List.cons_append]
  gi_wp2_with (refine ⟨trivial, ?_⟩; gi_at_call 60; refine (callsIn_wide.2 (stale_maker _ _)).mono ?_; rintro e w' ⟨rfl, rfl⟩)
  have bO := Boxed.new w 64 (.slice none 0 0)
  have bN := Boxed.new (w.alloc (.cells #[.slice none 0 0] 64)) 22 (.pointer (some ⟨d, 0, none⟩))
  rw [World.size_alloc] at bN
  have hB0 : Below w.heap.size w ((w.alloc (.cells #[.slice none 0 0] 64)).alloc (.cells #[.pointer (some ⟨d, 0, none⟩)] 22)) := ((Below.refl _ w).alloc (Nat.le_refl _) _).alloc (by simp) _
  have HD : Hid (DiskAt ((w.alloc (.cells #[.slice none 0 0] 64)).alloc (.cells #[.pointer (some ⟨d, 0, none⟩)] 22)) F d s) := Lib.hid (by
    obtain ⟨loc, blk, bn, bo, rowv, pA, pC, hB⟩ := HA.out
    exact (hB.far hB0).at_)
  refine wpIn_rangeFunc_ownG rfl (by omega) (gf := 70) (lb := #[.pointer (some ⟨w.heap.size + 1, 0, none⟩)]) rfl trivial (enters_of Try.func70 (by kernel_rfl) rfl)
    (stale_stops _ (by omega) d (w.heap.size + 1) s F _ HD hf bN.cell bN.lt (ProtS w.heap.size) (Lib.hid fun W W' b cs h1 h2 hb hc => ?prot)) (fun h k b hb => ⟨(k b (h b hb).1).1, (k b (h b hb).1).2.trans (h b hb).2⟩) (fun W l o o' _ hl ho _ b hb => ?kb) (Below.refl _ _) (fun _ => rfl)
    (CollI w) (fun _ _ _ => False)
    (OwnFrom.and (Own.from (holdsRow_own w.heap.size w.heap.size 64 9 1 (fun pre : List TmpNm => pre.length) (fun pre => pre.map fun x => Value.string (ba x.1)) (fun _ _ => True)) _) (ownFrom_below (Nat.le_refl _) (by simp; omega)))
    (fun _ _ _ _ _ hs _ _ => hs)
    ⟨⟨_, bO.alloc _, World.ownsRow_nil _ _ _ _, trivial⟩, hB0⟩
    (fun x => { tmps := #[.pointer (some ⟨d, 0, none⟩), undef, .slice none 0 0, .pointer (some ⟨w.heap.size, 0, none⟩), .string (ba x.1), .pointer (some ⟨d, 0, none⟩), .func (.func 70) #[] #[.pointer (some ⟨w.heap.size + 1, 0, none⟩)], .string (ba x.1), undef, undef, undef, undef, undef], defers := [] }) ?assign ?body ?done ?stop
  case prot =>
    refine ⟨⟨cs, hc⟩, .slice none 0 0, ?_, by simp [Value.ownBlock]⟩
    have h3 : w.heap.size < ((w.alloc (.cells #[.slice none 0 0] 64)).alloc (.cells #[.pointer (some ⟨d, 0, none⟩)] 22)).heap.size := by simp; omega
    exact (h2.block _ (Nat.lt_of_lt_of_le h3 h1.size)).trans ((h1.block _ h3).trans (bO.alloc _))
  case kb =>
    obtain ⟨⟨cs, hcs⟩, v, hv, hvb⟩ := hb
    have hbl : b ≠ l := fun e => by subst e; rw [hcs] at hl; cases hl; cases ho
    have hBl : w.heap.size ≠ l := fun e => by
      rw [← e] at hl
      rw [show W.heap[w.heap.size]? = _ from hv] at hl; cases hl; cases ho
    have e1 : (W.putObj l o').heap[b]? = W.heap[b]? := World.putObj_heap_other hbl
    exact ⟨⟨⟨cs, e1.trans hcs⟩, v, (World.putObj_heap_other hBl).trans hv, hvb⟩, e1⟩
  case assign =>
    intro l x W K hK
    gi_wp2
    exact hK
  case body =>
    rintro l pre x W ⟨⟨v, hv, hrow, -⟩, hB⟩ hlt
    have hc := hv.cell
    have hrowO := own_of_row hrow
    have hlen : ((pre.map fun x => x.1).map ba).length = pre.length := by simp
    have hle : pre.length ≤ 64 := by omega
    gi_wp2_with (gi_at_builtin; refine wpListIn_append_Own _ rfl _ _ 64 rfl Rep.str w.heap.size 9 16 stStr v _ rfl (hrowO.alloc _) _ _ 1 1 [ba x.1] rfl rfl (str_one _ _ _ (by rw [ba_size]; exact x.2.2)) (fun _ _ h => h) (by rw [hlen]; simp; omega) (by rw [hlen]; simp; omega) (by have := hB.size; simp; omega) ?_; intro v' w1 hown' hgrow hat; obtain ⟨hv1, hv2, hr2, hk2, hb2⟩ := hv.appended (by decide) hrow hB.size (Nat.le_refl _) (coll_row hown') hgrow; have hkp := Lib.hid (coll_keep hv hgrow hat hv2); obtain ⟨A5, n5, c5, rfl, -, -, -⟩ := hown'.form; have hc1 := hv1.cell; have hf1 := hv1.frozen; have HV2 := Lib.hid hv2; have HR2 := Lib.hid hr2; have HK2 := Lib.hid hk2; have HB2 := Lib.hid hb2; clear hv1 hv2 hr2 hk2 hb2 hown' hgrow hat)
    exact ⟨HK2.out.from _, hkp.out, ⟨_, HV2.out, HR2.out, trivial⟩, hB.trans HB2.out⟩
  case done =>
    rintro D ys W hD hS ⟨⟨v, hv, hrow, -⟩, hB⟩ hK
    have hc := hv.cell
    gi_wp2
    refine ⟨by simp, .inl ⟨_, _, rfl, run_takeDeferred hK, ?_⟩⟩
    have hlen : ys.length = s.stale.length := by rw [← hS, List.length_map]
    have hO := own_of_row (ownsRow_putObj hrow (.deferred none) hK rfl)
    rw [show (ys.map fun x => x.1) = s.stale from hS] at hO
    obtain ⟨A5, n5, c5, rfl, hn5, hnc5, hcm5⟩ := hO.form
    exact ⟨_, results_tmp rfl _ _ _, A5, n5, c5, rfl, Lib.hid (by rw [hn5.out, List.length_map]), hnc5, hcm5, hO, hB.trans (belowK_b (w := w) (Nat.le_refl _) W D _ _ (by simp at hD; omega) hK rfl rfl)⟩
  case stop =>
    rintro D c pre W _ _ h _
    exact h.elim
end Go.Proofs.Ytfommpbblpnljaa
