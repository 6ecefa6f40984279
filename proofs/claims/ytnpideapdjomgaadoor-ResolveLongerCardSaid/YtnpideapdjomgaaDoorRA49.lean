/- Texts that lead to the claim, one behind the other: A copy of a list of commands: the walk of CopyCmds. Condition: room. -/
import Derived.Test.YtnpideapdjomgaaDoorRA48
namespace Go.Proofs.YtnpideapdjomgaaDoor
open Go.RowKit Go.Shelf Go.ChangeShapes Go.WideShapes Go.Deep

theorem wpList_build_cm1 {ops : Array Oper} {rest : List Oper} {op : Oper} {a : Act} {w : World} {Q : Exit → Act → World → Prop} (hgd : op.guard = none) (x : Operand) (ho : op.op = .buildSlice 22 1 #[(0, x)]) (X : Array Value) (hx : a.eval x = .agg X) (hX : X.size = 272)
    (h : wpList Tryd.prog ops Q rest (a.put op.dst (.slice (some ⟨w.heap.size, 0, none⟩) 1 1)) (w.alloc (.cells X 44))) : wpList Tryd.prog ops Q (op :: rest) a w :=
  wpList_plain hgd fun _ hK => by
    have hb := run_build_cms w [X] (by intro Y hY; rw [List.mem_singleton.1 hY]; exact hX) (by simp) (by simp)
    have e1 : (flatC [X]).toArray = X := by unfold flatC; simp
    have e2 : (([X].zipIdx.map fun p => (p.2, Value.agg p.1)).toArray : Array (Nat × Value)) = #[(0, .agg X)] := rfl
    rw [e1, e2] at hb
    have e3 : (#[(0, x)] : Array (Nat × Operand)).map (fun p => (p.1, a.eval p.2)) = #[(0, .agg X)] := by simp [hx]
    unfold Oper.wp execOp
    simp only [ho, e3, List.length_singleton] at hb ⊢
    simp only [Sem.run_bind, hb, Result.andThen_ok, Sem.run_pure]
    exact hK _ _ h
theorem flat_cm2 {w6 w7 W : World} (hb : w6.heap.size ≤ w7.heap.size) (S' : Blocks) : ∀ cs x, Rep.cm.is W (fun b => b = w7.heap.size ∨ (w6.heap.size ≤ b ∧ b < w7.heap.size)) cs x → Rep.cm.is W (fun b => S' b ∨ (w6.heap.size ≤ b ∧ b < w7.heap.size + 1)) cs x := fun cs x h => Rep.cm.keep h (fun b hb' => by
  rcases hb' with rfl | h
  · exact .inr ⟨hb, Nat.lt_succ_self _⟩
  · exact .inr ⟨h.1, Nat.lt_succ_of_lt h.2⟩) (Same.refl _ _)
set_option maxRecDepth 100000 in
set_option maxHeartbeats 2000000 in
theorem copyCmds_any (A : Option Addr) (n c : Nat) (l : List Cm) (w : World) (S : Blocks) (hn : Hid (n = l.length)) (hl : Hid (SliceAt Rep.cm w S A c l)) (hS : Hid (∀ b, S b → b < w.heap.size)) (hR : Hid (∀ x ∈ l, x.room)) (hb : n ≤ 16777216) :
    Calls Tryd.prog 14 #[.slice A n c] w fun e w' => ∃ A' c' S', e = .returned (.slice A' n c') ∧ Own Rep.cm 44 w' w.heap.size S' (.slice A' n c') l ∧ (∀ b, S' b → w.heap.size ≤ b) ∧ Below w.heap.size w w' := by
  have hnc : n ≤ c := by rw [hn.out]; exact hl.out.len
  have hcm := hl.out.max
  go_enter Tryd.func14, Tryd.ntmps14
  go_wp2_with fail
  go_loopg [3, 4] n (fun k v3 v4 wr => ∃ (i : Nat) (S' : Blocks), i ≤ n ∧ v4 = .int .i64 i ∧ k = n - i ∧ Hid (Own Rep.cm 44 wr w.heap.size S' v3 (l.take i)) ∧ Hid (∀ b, S' b → w.heap.size ≤ b) ∧ Hid (Below w.heap.size w wr))
  case atStart => exact ⟨0, nob, Nat.zero_le _, rfl, rfl, Lib.hid (Own.nil _ _ _ _), Lib.hid fun _ h => h.elim, Lib.hid (Below.refl _ _)⟩
  case round =>
    obtain ⟨i, S', hi, rfl, hk, HOw, HS', HB⟩ := hrel
    have HK := Lib.hid hk
    clear hk
    obtain ⟨w1, rfl⟩ : ∃ W : World, W = wr := ⟨_, rfl⟩
    by_cases hin : i < n
    · have hil : i < l.length := by rw [← hn.out]; exact hin
      obtain ⟨x, hx⟩ : ∃ x, x = l[i] := ⟨_, rfl⟩
      have HROOM : Hid x.room := Lib.hid (by rw [hx]; exact hR.out _ (List.getElem_mem hil))
      have HTK : Hid (l.take (i + 1) = l.take i ++ [x]) := Lib.hid (by rw [hx]; exact List.take_succ_eq_append_getElem hil)
      have HTL : Hid ((l.take i).length = i) := Lib.hid (by rw [List.length_take]; omega)
      obtain ⟨g, o, s, rfl, hg, hcs, hwf, hcl⟩ := cm_at hl.out (Same.of_below HB.out hS.out) hil
      rw [← hx] at hcs hwf hcl
      obtain ⟨X, hXX⟩ : ∃ X, X = (ccells x s).toArray := ⟨_, rfl⟩
      have HCX : Hid (CmX X x s) := Lib.hid ⟨by rw [hXX], hwf⟩
      have HCS := Lib.hid hcs
      have HS1 : Hid (∀ b, S b → b < w1.heap.size) := Lib.hid fun b hb => Nat.lt_of_lt_of_le (hS.out b hb) HB.out.size
      have HC := Lib.hid (copyCmd_any HCX (Lib.hid hcl) HS1 HROOM)
      obtain ⟨A3, n3, c3, rfl, -, -, -⟩ := HOw.out.form
      clear hXX hcs hwf hcl hg hx
      go_wp2_with (first
        | (refine wpList_load_cm2 HCS.out HCX.out (.tmp 14) rfl rfl rfl ?_)
        | (go_at_call 26; refine HC.out.mono ?_; rintro _ w2 ⟨X', s', rfl, hx', hl', hb2⟩; have HX' := Lib.hid hx'; have HL' := Lib.hid hl'; have HB2 := Lib.hid hb2; have HSZ : Hid (X'.size = 272) := Lib.hid hx'.size; clear hx' hl' hb2)
        | (refine wpList_build_cm1 rfl (.tmp 16) rfl X' rfl HSZ.out ?_)
        | (at_builtin; refine wpList_append_Own _ rfl (.tmp 11) (.tmp 17) 22 rfl Rep.cm w.heap.size 44 440 stCms S' (.slice A3 n3 c3) (l.take i) rfl ((HOw.out.far HB2.out).alloc _) _ (some ⟨w2.heap.size, 0, none⟩) 1 [x] rfl (SliceAt.new1 Rep.cm w2 _ X' x (fun b => w1.heap.size ≤ b ∧ b < w2.heap.size) ⟨s', HX'.out.list, HX'.out.wf, HL'.out⟩ (fun b hb => hb.2)) (fun b => S' b ∨ (w1.heap.size ≤ b ∧ b < w2.heap.size + 1)) (sep_new HOw.out HB2.out.size _) (fun _ h => .inl h) (flat_cm2 HB2.out.size S') (by rw [HTL.out]; simp; omega) (by rw [HTL.out]; simp; omega) (by have := HB.out.size; have := HB2.out.size; simp; omega) ?_; intro v4 w3 hown hg3 _; have HO := Lib.hid hown; have HG := Lib.hid hg3; clear hown hg3))
      have HB3 : Hid (Below w.heap.size w w3) := Lib.hid (((HB.out.trans (HB2.out.mono HB.out.size)).alloc (Nat.le_trans HB.out.size HB2.out.size) _).grown HG.out (by have := HB.out.size; have := HB2.out.size; simp; omega) fun k hk => by obtain ⟨_, hx, _⟩ := HOw.out; exact (hx.lt k hk).1)
      go_roundg (n - (i + 1))
      case measure => have := HK.out; omega
      case rel => exact ⟨i + 1, _, by omega, by go_num, rfl, Lib.hid (by rw [HTK.out]; exact HO.out), Lib.hid (fun b hb => by
        rcases hb with hb | hb
        · exact HS'.out b hb
        · exact Nat.le_trans HB.out.size hb.1), HB3⟩
    · obtain rfl : i = n := by omega
      have hO := HOw.out
      rw [List.take_of_length_le (by rw [← hn.out]; exact Nat.le_refl _)] at hO
      obtain ⟨A', n', c', rfl, hn', -, -⟩ := hO.form
      have e : n' = i := by rw [hn'.out, hn.out]
      subst e
      have HO := Lib.hid hO
      clear hO hn'
      go_wp2_with fail
      go_ret
      exact ⟨A', c', S', rfl, HO.out, HS'.out, HB.out⟩
end Go.Proofs.YtnpideapdjomgaaDoor
