/- A command line written: the walk of opts.Print. Condition: at most 2^32 parts and files. -/
import Derived.Test.YtmjagjcaepbklaaDoorProg
import Derived.Test.YtmjagjcaepbklaaDoorOptsParse
import Derived.Test.YtmjagjcaepbklaaDoorEqParts
import Derived.WalkKit
import Derived.WalkSpells
import Derived.RegionTactic
import Derived.ChangeAlike
import Derived.Deep.QuietTactic
import Derived.BigQuiet
import Derived.Lib.Hide
import Derived.Deep.LoopGhost
import Derived.Deep.CutBlock
import Derived.Deep.RegionLaw
namespace Go.Proofs.YtmjagjcaepbklaaDoor
open Go.RowKit

theorem str1 (w : World) (e : TypeId) (x : ByteArray) (q : Nat) (hx : x.size ≤ maxLen) (hq : q = w.heap.size) (B : Nat) (hB : w.heap.size < B) : SliceAt Rep.str (w.alloc (.cells #[.string x] e)) (under B) (some ⟨q, 0, none⟩) 1 [x] := by
  subst hq
  exact (SliceAt.new1 Rep.str w e #[.string x] x nob ⟨rfl, hx⟩ (fun _ h => h.elim)).up fun b hb => by rcases hb with rfl | h; exact hB; exact h.elim
theorem str2 (w : World) (e : TypeId) (x y : ByteArray) (q : Nat) (hx : x.size ≤ maxLen) (hy : y.size ≤ maxLen) (hq : q = w.heap.size) (B : Nat) (hB : w.heap.size < B) : SliceAt Rep.str (w.alloc (.cells #[.string x, .string y] e)) (under B) (some ⟨q, 0, none⟩) 2 [x, y] := by
  subst hq
  refine (SliceAt.newRow Rep.str w e #[.string x, .string y] [x, y] nob 2 2 rfl (Nat.le_refl _) (by simp [maxLen]) (fun i hi => ?_) (fun _ h => h.elim)).up fun b hb => by rcases hb with rfl | h; exact hB; exact h.elim
  match i, hi with
  | 0, _ => exact ⟨rfl, hx⟩
  | 1, _ => exact ⟨rfl, hy⟩
theorem flag_at0 (v0 v1 v2 v3 v4 v5 v6 v7 : Value) (w : World) : (Instr.index 77 (.agg #[v0, v1, v2, v3, v4, v5, v6, v7]) (.int .i64 0)).run Tryd.prog w = .ok (.agg #[v0, v1]) w := by kernel_rfl
theorem flag_at1 (v0 v1 v2 v3 v4 v5 v6 v7 : Value) (w : World) : (Instr.index 77 (.agg #[v0, v1, v2, v3, v4, v5, v6, v7]) (.int .i64 1)).run Tryd.prog w = .ok (.agg #[v2, v3]) w := by kernel_rfl
theorem flag_at2 (v0 v1 v2 v3 v4 v5 v6 v7 : Value) (w : World) : (Instr.index 77 (.agg #[v0, v1, v2, v3, v4, v5, v6, v7]) (.int .i64 2)).run Tryd.prog w = .ok (.agg #[v4, v5]) w := by kernel_rfl
theorem flag_at3 (v0 v1 v2 v3 v4 v5 v6 v7 : Value) (w : World) : (Instr.index 77 (.agg #[v0, v1, v2, v3, v4, v5, v6, v7]) (.int .i64 3)).run Tryd.prog w = .ok (.agg #[v6, v7]) w := by kernel_rfl
section
variable {P : Program} {w : World} {α : Type}
/-- append onto a row of the call's own, at a step of a region that draws its order. -/
theorem step_append_Own {ops : Array Oper} {o : Oper} {a : Act} {K : Act → World → Prop} {Q : Exit → Act → World → Prop} {E : Prop} (hgd : o.guard = none) (s x : Operand) (t : TypeId)
    (ho : o.op = .call { callee := .builtin .append, args := #[s, x], argTypes := #[t, t] })
    (r : Rep α) (base : Nat) (e : TypeId) (bytes : Nat) (hT : SliceType P t e r.n bytes) (S : Blocks) (v : Value) (l : List α) (hs : a.eval s = v) (hown : Own r e w base S v l)
    (S2 : Blocks) (A : Option Addr) (c : Nat) (m : List α) (hx : a.eval x = .slice A m.length c) (hm : SliceAt r w S2 A c m) (S3 : Blocks) (hS3 : ∀ b, S3 b → b < w.heap.size ∧ some b ≠ v.ownBlock) (hin : ∀ b, S b → S3 b)
    (hflat : ∀ cs x, r.is w S2 cs x → r.is w S3 cs x) (hbytes : (l.length + m.length) * bytes ≤ 140737488355328) (hlen : l.length + m.length ≤ 9223372036854775807) (hbase : base ≤ w.heap.size)
    (h : ∀ v' w', Own r e w' base S3 v' (l ++ m) → w.grownBy w' v.ownBlock → (v'.ownBlock = v.ownBlock ∨ v'.ownBlock = some w.heap.size) → K (a.put o.dst v') w') :
    if Region.wanted o (yielded ops a.tmps) = true then Oper.wp P o a w K Q else E := by
  have hw : Region.wanted o (yielded ops a.tmps) = true := by simp [Region.wanted, hgd]
  rw [if_pos hw]
  exact wp_append_Own w s x t ho r base e bytes hT S v l hs hown S2 A c m hx hm S3 hS3 hin hflat hbytes hlen hbase h
end
theorem Own.base_le {α : Type} {r : Rep α} {e : TypeId} {w : World} {B B' : Nat} {S : Blocks} {v : Value} {l : List α} (h : Own r e w B S v l) (hle : B' ≤ B) : Own r e w B' S v l := by
  obtain ⟨xs, ⟨h1, h2⟩, h3⟩ := h
  refine ⟨xs, ⟨h1, ?_⟩, h3⟩
  rcases h2 with h2 | ⟨g, cap, cur, e1, hb, h4⟩
  · exact .inl h2
  · exact .inr ⟨g, cap, cur, e1, Nat.le_trans hle hb, h4⟩
set_option maxRecDepth 100000 in
set_option maxHeartbeats 8000000 in
theorem print_any (q e a i : Bool) (ps : List Opts.Prt) (fs : List ByteArray) (A C : Option Addr) (n m ca cc : Nat) (w : World) (hn : Hid (n = ps.length)) (hm : Hid (m = fs.length))
    (h1 : Hid (SliceAt Rep.prt w (under w.heap.size) A ca ps)) (h2 : Hid (SliceAt Rep.str w (under w.heap.size) C cc fs)) (hb : n ≤ 4294967296) (hb : m ≤ 4294967296) :
    Calls Tryd.prog 12 #[.agg #[.bool q, .bool e, .bool a, .bool i, .slice A n ca, .slice C m cc]] w fun e' w' => ∃ v, e' = .returned v ∧ Own Rep.str 9 w' w.heap.size nob v (Opts.print ⟨⟨q, e, a, i⟩, ps, fs⟩) ∧ Below w.heap.size w w' := by
  have hnc := h1.out.len
  have hcm := h1.out.max
  have hmc := h2.out.len
  have hdm := h2.out.max
  rw [← hn.out] at hnc
  rw [← hm.out] at hmc
  obtain ⟨W0, hW0⟩ : ∃ W0, W0 = w.alloc (oObj ⟨q, e, a, i⟩ (.slice A n ca) (.slice C m cc)) := ⟨_, rfl⟩
  have HW0 := Lib.hid hW0
  have hobj : W0.heap[w.heap.size]? = some (oObj ⟨q, e, a, i⟩ (.slice A n ca) (.slice C m cc)) := by rw [hW0]; exact heap_alloc_new _ _
  have hb0 : Below w.heap.size w W0 := by rw [hW0]; exact (Below.refl _ _).alloc (Nat.le_refl _) _
  have hs0 : W0.heap.size = w.heap.size + 1 := by rw [hW0]; simp
  have HB0 := Lib.hid hb0
  have HOBJ := Lib.hid hobj
  clear hW0 hobj hb0
  go_enter Tryd.func12, Tryd.ntmps12
  go_upto_region 1 with fail
  go_cut [20] from 3 (fun v wc => v = .bool (Opts.bad ⟨⟨q, e, a, i⟩, ps, fs⟩) ∧ wc = W0)
  case first =>
    by_cases hn0 : n = 0
    · have HB : Hid (Opts.bad ⟨⟨q, e, a, i⟩, ps, fs⟩ = true) := Lib.hid (by have : ps = [] := List.length_eq_zero_iff.1 (by rw [← hn.out]; exact hn0); subst this; rfl)
      subst hn0
      go_wp2_with fail
      go_meet
      case rel => exact ⟨by rw [HB.out], HW0.out.symm⟩
    · have hd : ((n : Int) == 0) = false := by rw [beq_eq_false_iff_ne]; omega
      have HB : Hid (Opts.bad ⟨⟨q, e, a, i⟩, ps, fs⟩ = (i && !a)) := Lib.hid (by cases hp : ps with
        | nil => exact absurd hn.out (by rw [hp]; exact hn0)
        | cons x r => rfl)
      cases i
      · go_wp2_with fail
        go_meet
        case rel => exact ⟨by rw [HB.out]; rfl, HW0.out.symm⟩
      · cases a
        · go_wp2_with fail
          go_meet
          case rel => exact ⟨by rw [HB.out]; rfl, HW0.out.symm⟩
        · go_wp2_with fail
          go_meet
          case rel => exact ⟨by rw [HB.out]; rfl, HW0.out.symm⟩
  case rest =>
    obtain ⟨rfl, rfl⟩ := hcut
    by_cases hbad : Opts.bad ⟨⟨q, e, a, i⟩, ps, fs⟩ = true
    · have HB := Lib.hid hbad
      rw [hbad]
      clear hbad
      go_wp2_with fail
      go_ret
      refine ⟨_, rfl, ?_, HB0.out⟩
      unfold Opts.print
      rw [if_pos HB.out]
      exact Own.nil _ _ _ _
    · have hbad2 : Opts.bad ⟨⟨q, e, a, i⟩, ps, fs⟩ = false := by simpa using hbad
      have HB := Lib.hid hbad2
      rw [hbad2]
      clear hbad hbad2
      have k0 := cell_of_row wc w.heap.size 0 _ _ (0, 0) HOBJ.out
      have k1 := cell_of_row wc w.heap.size 1 _ _ (0, 0) HOBJ.out
      have k2 := cell_of_row wc w.heap.size 2 _ _ (0, 0) HOBJ.out
      have k3 := cell_of_row wc w.heap.size 3 _ _ (0, 0) HOBJ.out
      have k4 := cell_of_row wc w.heap.size 4 _ _ (0, 0) HOBJ.out
      have k5 := cell_of_row wc w.heap.size 5 _ _ (0, 0) HOBJ.out
      simp [oCells] at k0 k1 k2 k3 k4 k5
      go_upto_region 4 with fail
      go_cut [38, 39] from 4 (fun v v39 wd => v = .agg #[.bool q, .string ⟨#[45, 110]⟩, .bool e, .string ⟨#[45, 69]⟩, .bool (a && !i), .string ⟨#[45, 115]⟩, .bool i, .string ⟨#[45, 105]⟩] ∧ v39 = .int .i64 0 ∧ wd = wc)
      case first =>
        cases a
        · go_wp2_with fail
          go_meet
          case rel => exact ⟨rfl, rfl, rfl⟩
        · go_wp2_with fail
          go_meet
          case rel => exact ⟨rfl, rfl, rfl⟩
      case rest =>
        obtain ⟨rfl, rfl, rfl⟩ := hcut
        obtain ⟨b, hb'⟩ : ∃ b, b = (a && !i) := ⟨_, rfl⟩
        rw [← hb']
        have HBB := Lib.hid hb'
        clear hb'
        go_wp2_with fail
        obtain ⟨wo, rfl⟩ : ∃ wo : World, wo = wc := ⟨_, rfl⟩
        go_loopg [3, 39] 4 (fun k v3 v39 wr => ∃ (j : Nat), j ≤ 4 ∧ v39 = .int .i64 j ∧ k = 4 - j ∧ Hid (Own Rep.str 9 wr wo.heap.size nob v3 (Opts.flagL ((Opts.flagB ⟨q, e, a, i⟩).take j))) ∧ Hid (Below wo.heap.size wo wr))
        case atStart => exact ⟨0, by omega, rfl, rfl, Lib.hid (Own.nil _ _ _ _), Lib.hid (Below.refl _ _)⟩
        case round =>
          clear k0 k1 k2 k3 k4 k5
          obtain ⟨j, hj, rfl, rfl, HOWN, HB1⟩ := hrel
          obtain ⟨A1, n1, c1, rfl, HN1, hnc1, hcm1⟩ := HOWN.out.form
          have hwr := HB1.out.size
          have HLEN : Hid ((Opts.flagL ((Opts.flagB ⟨q, e, a, i⟩).take j)).length ≤ 4) := Lib.hid (Nat.le_trans (Opts.flagL_len _) (by rw [List.length_take]; omega))
          by_cases hj0 : j = 0
          · subst hj0
            have HT := Lib.hid (Opts.flagL_take (Opts.flagB ⟨q, e, a, i⟩) 0 (show 0 < 4 by decide))
            have HX : Hid ((Opts.flagB ⟨q, e, a, i⟩)[0]'(show 0 < 4 by decide) = (q, ⟨#[45, 110]⟩)) := Lib.hid (by rfl)
            rw [HX.out] at HT
            have HT2 : Hid (∀ bb, q = bb → Opts.flagL ((Opts.flagB ⟨q, e, a, i⟩).take (0 + 1)) = Opts.flagL ((Opts.flagB ⟨q, e, a, i⟩).take 0) ++ (if bb then [⟨#[45, 110]⟩] else [])) := Lib.hid fun bb h => by rw [← h]; exact HT.out
            clear HT
            clear HX
            rcases Bool.eq_false_or_eq_true q with hv | hv
            · have HT := Lib.hid (HT2.out true hv)
              have hat : ∀ W : World, (Instr.index 77 (.agg #[.bool q, .string ⟨#[45, 110]⟩, .bool e, .string ⟨#[45, 69]⟩, .bool b, .string ⟨#[45, 115]⟩, .bool i, .string ⟨#[45, 105]⟩]) (.int .i64 0)).run Tryd.prog W = .ok (.agg #[.bool true, .string ⟨#[45, 110]⟩]) W := fun W => (flag_at0 _ _ _ _ _ _ _ _ W).trans (by rw [hv])
              clear HT2 hv
              go_wp2_with (at_builtin; refine wpList_append_Own _ rfl (.tmp 44) (.tmp 47) 22 rfl Rep.str wo.heap.size 9 16 stStr nob (.slice A1 n1 c1) _ rfl ((HOWN.out.alloc _).alloc _) (under (wr.heap.size + 2)) _ _ [⟨#[45, 110]⟩] rfl (str1 _ _ _ _ (by decide) (by simp) _ (by simp)) nob (fun _ h => h.elim) (fun _ h => h) (fun _ _ h => h) (by have := HLEN.out; simp only [List.length_cons, List.length_nil]; omega) (by have := HLEN.out; simp only [List.length_cons, List.length_nil]; omega) (by simp <;> omega) ?_; intro v3 w3 hown3 hg3 hat3; have HOWN3 := Lib.hid hown3; have HB3 := Lib.hid (below_own ((HB1.out.alloc hwr _).alloc (by simp <;> omega) _) ((HOWN.out.alloc _).alloc _) hg3 (by simp <;> omega)); clear hown3 hg3 hat3)
              go_roundg 3
              case measure => omega
              case rel => exact ⟨1, by omega, rfl, rfl, Lib.hid (by rw [HT.out]; exact HOWN3.out), HB3⟩
            · have HT := Lib.hid (HT2.out false hv)
              have hat : ∀ W : World, (Instr.index 77 (.agg #[.bool q, .string ⟨#[45, 110]⟩, .bool e, .string ⟨#[45, 69]⟩, .bool b, .string ⟨#[45, 115]⟩, .bool i, .string ⟨#[45, 105]⟩]) (.int .i64 0)).run Tryd.prog W = .ok (.agg #[.bool false, .string ⟨#[45, 110]⟩]) W := fun W => (flag_at0 _ _ _ _ _ _ _ _ W).trans (by rw [hv])
              clear HT2 hv
              go_wp2_with fail
              go_roundg 3
              case measure => omega
              case rel => exact ⟨1, by omega, rfl, rfl, Lib.hid (by rw [HT.out]; simpa using HOWN.out.alloc _), Lib.hid (HB1.out.alloc hwr _)⟩
          by_cases hj1 : j = 1
          · subst hj1
            have HT := Lib.hid (Opts.flagL_take (Opts.flagB ⟨q, e, a, i⟩) 1 (show 1 < 4 by decide))
            have HX : Hid ((Opts.flagB ⟨q, e, a, i⟩)[1]'(show 1 < 4 by decide) = (e, ⟨#[45, 69]⟩)) := Lib.hid (by rfl)
            rw [HX.out] at HT
            have HT2 : Hid (∀ bb, e = bb → Opts.flagL ((Opts.flagB ⟨q, e, a, i⟩).take (1 + 1)) = Opts.flagL ((Opts.flagB ⟨q, e, a, i⟩).take 1) ++ (if bb then [⟨#[45, 69]⟩] else [])) := Lib.hid fun bb h => by rw [← h]; exact HT.out
            clear HT
            clear HX
            rcases Bool.eq_false_or_eq_true e with hv | hv
            · have HT := Lib.hid (HT2.out true hv)
              have hat : ∀ W : World, (Instr.index 77 (.agg #[.bool q, .string ⟨#[45, 110]⟩, .bool e, .string ⟨#[45, 69]⟩, .bool b, .string ⟨#[45, 115]⟩, .bool i, .string ⟨#[45, 105]⟩]) (.int .i64 1)).run Tryd.prog W = .ok (.agg #[.bool true, .string ⟨#[45, 69]⟩]) W := fun W => (flag_at1 _ _ _ _ _ _ _ _ W).trans (by rw [hv])
              clear HT2 hv
              go_wp2_with (at_builtin; refine wpList_append_Own _ rfl (.tmp 44) (.tmp 47) 22 rfl Rep.str wo.heap.size 9 16 stStr nob (.slice A1 n1 c1) _ rfl ((HOWN.out.alloc _).alloc _) (under (wr.heap.size + 2)) _ _ [⟨#[45, 69]⟩] rfl (str1 _ _ _ _ (by decide) (by simp) _ (by simp)) nob (fun _ h => h.elim) (fun _ h => h) (fun _ _ h => h) (by have := HLEN.out; simp only [List.length_cons, List.length_nil]; omega) (by have := HLEN.out; simp only [List.length_cons, List.length_nil]; omega) (by simp <;> omega) ?_; intro v3 w3 hown3 hg3 hat3; have HOWN3 := Lib.hid hown3; have HB3 := Lib.hid (below_own ((HB1.out.alloc hwr _).alloc (by simp <;> omega) _) ((HOWN.out.alloc _).alloc _) hg3 (by simp <;> omega)); clear hown3 hg3 hat3)
              go_roundg 2
              case measure => omega
              case rel => exact ⟨2, by omega, rfl, rfl, Lib.hid (by rw [HT.out]; exact HOWN3.out), HB3⟩
            · have HT := Lib.hid (HT2.out false hv)
              have hat : ∀ W : World, (Instr.index 77 (.agg #[.bool q, .string ⟨#[45, 110]⟩, .bool e, .string ⟨#[45, 69]⟩, .bool b, .string ⟨#[45, 115]⟩, .bool i, .string ⟨#[45, 105]⟩]) (.int .i64 1)).run Tryd.prog W = .ok (.agg #[.bool false, .string ⟨#[45, 69]⟩]) W := fun W => (flag_at1 _ _ _ _ _ _ _ _ W).trans (by rw [hv])
              clear HT2 hv
              go_wp2_with fail
              go_roundg 2
              case measure => omega
              case rel => exact ⟨2, by omega, rfl, rfl, Lib.hid (by rw [HT.out]; simpa using HOWN.out.alloc _), Lib.hid (HB1.out.alloc hwr _)⟩
          by_cases hj2 : j = 2
          · subst hj2
            have HT := Lib.hid (Opts.flagL_take (Opts.flagB ⟨q, e, a, i⟩) 2 (show 2 < 4 by decide))
            have HX : Hid ((Opts.flagB ⟨q, e, a, i⟩)[2]'(show 2 < 4 by decide) = (b, ⟨#[45, 115]⟩)) := Lib.hid (by rw [HBB.out]; rfl)
            rw [HX.out] at HT
            clear HX
            have HT2 : Hid (∀ bb, b = bb → Opts.flagL ((Opts.flagB ⟨q, e, a, i⟩).take (2 + 1)) = Opts.flagL ((Opts.flagB ⟨q, e, a, i⟩).take 2) ++ (if bb then [⟨#[45, 115]⟩] else [])) := Lib.hid fun bb h => by rw [← h]; exact HT.out
            clear HT
            rcases Bool.eq_false_or_eq_true b with hv | hv
            · have HT := Lib.hid (HT2.out true hv)
              have hat : ∀ W : World, (Instr.index 77 (.agg #[.bool q, .string ⟨#[45, 110]⟩, .bool e, .string ⟨#[45, 69]⟩, .bool b, .string ⟨#[45, 115]⟩, .bool i, .string ⟨#[45, 105]⟩]) (.int .i64 2)).run Tryd.prog W = .ok (.agg #[.bool true, .string ⟨#[45, 115]⟩]) W := fun W => (flag_at2 _ _ _ _ _ _ _ _ W).trans (by rw [hv])
              clear HT2 hv
              go_wp2_with (at_builtin; refine wpList_append_Own _ rfl (.tmp 44) (.tmp 47) 22 rfl Rep.str wo.heap.size 9 16 stStr nob (.slice A1 n1 c1) _ rfl ((HOWN.out.alloc _).alloc _) (under (wr.heap.size + 2)) _ _ [⟨#[45, 115]⟩] rfl (str1 _ _ _ _ (by decide) (by simp) _ (by simp)) nob (fun _ h => h.elim) (fun _ h => h) (fun _ _ h => h) (by have := HLEN.out; simp only [List.length_cons, List.length_nil]; omega) (by have := HLEN.out; simp only [List.length_cons, List.length_nil]; omega) (by simp <;> omega) ?_; intro v3 w3 hown3 hg3 hat3; have HOWN3 := Lib.hid hown3; have HB3 := Lib.hid (below_own ((HB1.out.alloc hwr _).alloc (by simp <;> omega) _) ((HOWN.out.alloc _).alloc _) hg3 (by simp <;> omega)); clear hown3 hg3 hat3)
              go_roundg 1
              case measure => omega
              case rel => exact ⟨3, by omega, rfl, rfl, Lib.hid (by rw [HT.out]; exact HOWN3.out), HB3⟩
            · have HT := Lib.hid (HT2.out false hv)
              have hat : ∀ W : World, (Instr.index 77 (.agg #[.bool q, .string ⟨#[45, 110]⟩, .bool e, .string ⟨#[45, 69]⟩, .bool b, .string ⟨#[45, 115]⟩, .bool i, .string ⟨#[45, 105]⟩]) (.int .i64 2)).run Tryd.prog W = .ok (.agg #[.bool false, .string ⟨#[45, 115]⟩]) W := fun W => (flag_at2 _ _ _ _ _ _ _ _ W).trans (by rw [hv])
              clear HT2 hv
              go_wp2_with fail
              go_roundg 1
              case measure => omega
              case rel => exact ⟨3, by omega, rfl, rfl, Lib.hid (by rw [HT.out]; simpa using HOWN.out.alloc _), Lib.hid (HB1.out.alloc hwr _)⟩
          by_cases hj3 : j = 3
          · subst hj3
            have HT := Lib.hid (Opts.flagL_take (Opts.flagB ⟨q, e, a, i⟩) 3 (show 3 < 4 by decide))
            have HX : Hid ((Opts.flagB ⟨q, e, a, i⟩)[3]'(show 3 < 4 by decide) = (i, ⟨#[45, 105]⟩)) := Lib.hid (by rfl)
            rw [HX.out] at HT
            have HT2 : Hid (∀ bb, i = bb → Opts.flagL ((Opts.flagB ⟨q, e, a, i⟩).take (3 + 1)) = Opts.flagL ((Opts.flagB ⟨q, e, a, i⟩).take 3) ++ (if bb then [⟨#[45, 105]⟩] else [])) := Lib.hid fun bb h => by rw [← h]; exact HT.out
            clear HT
            clear HX
            rcases Bool.eq_false_or_eq_true i with hv | hv
            · have HT := Lib.hid (HT2.out true hv)
              have hat : ∀ W : World, (Instr.index 77 (.agg #[.bool q, .string ⟨#[45, 110]⟩, .bool e, .string ⟨#[45, 69]⟩, .bool b, .string ⟨#[45, 115]⟩, .bool i, .string ⟨#[45, 105]⟩]) (.int .i64 3)).run Tryd.prog W = .ok (.agg #[.bool true, .string ⟨#[45, 105]⟩]) W := fun W => (flag_at3 _ _ _ _ _ _ _ _ W).trans (by rw [hv])
              clear HT2 hv
              go_wp2_with (at_builtin; refine wpList_append_Own _ rfl (.tmp 44) (.tmp 47) 22 rfl Rep.str wo.heap.size 9 16 stStr nob (.slice A1 n1 c1) _ rfl ((HOWN.out.alloc _).alloc _) (under (wr.heap.size + 2)) _ _ [⟨#[45, 105]⟩] rfl (str1 _ _ _ _ (by decide) (by simp) _ (by simp)) nob (fun _ h => h.elim) (fun _ h => h) (fun _ _ h => h) (by have := HLEN.out; simp only [List.length_cons, List.length_nil]; omega) (by have := HLEN.out; simp only [List.length_cons, List.length_nil]; omega) (by simp <;> omega) ?_; intro v3 w3 hown3 hg3 hat3; have HOWN3 := Lib.hid hown3; have HB3 := Lib.hid (below_own ((HB1.out.alloc hwr _).alloc (by simp <;> omega) _) ((HOWN.out.alloc _).alloc _) hg3 (by simp <;> omega)); clear hown3 hg3 hat3)
              go_roundg 0
              case measure => omega
              case rel => exact ⟨4, by omega, rfl, rfl, Lib.hid (by rw [HT.out]; exact HOWN3.out), HB3⟩
            · have HT := Lib.hid (HT2.out false hv)
              have hat : ∀ W : World, (Instr.index 77 (.agg #[.bool q, .string ⟨#[45, 110]⟩, .bool e, .string ⟨#[45, 69]⟩, .bool b, .string ⟨#[45, 115]⟩, .bool i, .string ⟨#[45, 105]⟩]) (.int .i64 3)).run Tryd.prog W = .ok (.agg #[.bool false, .string ⟨#[45, 105]⟩]) W := fun W => (flag_at3 _ _ _ _ _ _ _ _ W).trans (by rw [hv])
              clear HT2 hv
              go_wp2_with fail
              go_roundg 0
              case measure => omega
              case rel => exact ⟨4, by omega, rfl, rfl, Lib.hid (by rw [HT.out]; simpa using HOWN.out.alloc _), Lib.hid (HB1.out.alloc hwr _)⟩
          obtain rfl : j = 4 := by omega
          have hwo : wo.heap.size = w.heap.size + 1 := hs0
          have hobj2 := (HB1.out.block w.heap.size (by omega)).trans HOBJ.out
          have k4 := cell_of_row wr w.heap.size 4 _ _ (0, 0) hobj2
          have k5 := cell_of_row wr w.heap.size 5 _ _ (0, 0) hobj2
          simp [oCells] at k4 k5
          clear hobj2
          go_wp2_with fail
          obtain ⟨wp, rfl⟩ : ∃ wp : World, wp = wr := ⟨_, rfl⟩
          have HOWN4 : Hid (Own Rep.str 9 wp wo.heap.size nob (.slice A1 n1 c1) (Opts.flagL (Opts.flagB ⟨q, e, a, i⟩))) := HOWN
          have HLEN4 : Hid ((Opts.flagL (Opts.flagB ⟨q, e, a, i⟩)).length ≤ 4) := HLEN
          clear HOWN HLEN
          go_loopg [3, 53] n (fun k v3 v53 wr => ∃ (j : Nat), j ≤ n ∧ v53 = .int .i64 j ∧ k = n - j ∧ Hid (Own Rep.str 9 wr wo.heap.size nob v3 (Opts.flagL (Opts.flagB ⟨q, e, a, i⟩) ++ Opts.partsL (ps.take j))) ∧ Hid (Below wo.heap.size wo wr))
          case atStart => exact ⟨0, Nat.zero_le _, rfl, rfl, Lib.hid (by simpa [Opts.partsL] using HOWN4.out), HB1⟩
          case round =>
            clear k4 k5
            obtain ⟨j, hj, rfl, rfl, HOWN, HB5⟩ := hrel
            have hwp := HB5.out.size
            have HB6 := Lib.hid (HB0.out.trans (HB5.out.mono (by omega)))
            have hwsz := HB6.out.size
            obtain ⟨A5, n5, c5, rfl, HN5, hnc5, hcm5⟩ := HOWN.out.form
            by_cases hlt : j < n
            · have hjl : j < ps.length := by have := hn.out; omega
              have HT := Lib.hid (Opts.partsL_take ps j hjl)
              obtain ⟨g, o, rfl, -, hc0, hc1, hsz⟩ := (h1.out.keep (fun _ h => h) (Same.of_below HB6.out fun _ h => h)).prts hjl
              obtain ⟨⟨pb, pt⟩, hp⟩ : ∃ p, p = ps[j] := ⟨_, rfl⟩
              have hc0' : wr.cell? ⟨g, o + j * 2, none⟩ = some (.bool pb) := by rw [hc0, ← hp]
              have hc1' : wr.cell? ⟨g, o + j * 2 + 1, none⟩ = some (.string pt) := by rw [hc1, ← hp]
              have hsz' : pt.size ≤ maxLen := by rw [← hp] at hsz; simpa [maxLen] using hsz
              rw [← hp] at HT
              have HLEN : Hid ((Opts.flagL (Opts.flagB ⟨q, e, a, i⟩) ++ Opts.partsL (ps.take j)).length ≤ 4 + 2 * j) := Lib.hid (by have := HLEN4.out; rw [List.length_append, Opts.partsL_len, List.length_take]; omega)
              clear hc0 hc1 hp hsz
              cases pb
              · go_wp2_with (at_builtin; refine wpList_append_Own _ rfl (.tmp 64) (.tmp 67) 22 rfl Rep.str wo.heap.size 9 16 stStr nob (.slice A5 n5 c5) _ rfl ((HOWN.out.alloc _).alloc _) (under (wr.heap.size + 2)) _ _ [⟨#[45, 101]⟩, pt] rfl (str2 _ _ _ _ _ (by decide) hsz' (by simp) _ (by simp)) nob (fun _ h => h.elim) (fun _ h => h) (fun _ _ h => h) (by have := HLEN.out; simp only [List.length_cons, List.length_nil]; omega) (by have := HLEN.out; simp only [List.length_cons, List.length_nil]; omega) (by simp <;> omega) ?_; intro v3 w3 hown3 hg3 hat3; have HOWN3 := Lib.hid hown3; have HB3 := Lib.hid (below_own (((HB5.out.alloc hwp _).alloc (by simp <;> omega) _)) ((HOWN.out.alloc _).alloc _) hg3 (by simp <;> omega)); clear hown3 hg3 hat3)
                go_roundg (n - (j + 1))
                case measure => omega
                case rel => exact ⟨j + 1, by omega, by go_num, rfl, Lib.hid (by rw [HT.out, ← List.append_assoc]; exact HOWN3.out), HB3⟩
              · go_wp2_with (at_builtin; refine wpList_append_Own _ rfl (.tmp 59) (.tmp 62) 22 rfl Rep.str wo.heap.size 9 16 stStr nob (.slice A5 n5 c5) _ rfl ((HOWN.out.alloc _).alloc _) (under (wr.heap.size + 2)) _ _ [⟨#[45, 102]⟩, pt] rfl (str2 _ _ _ _ _ (by decide) hsz' (by simp) _ (by simp)) nob (fun _ h => h.elim) (fun _ h => h) (fun _ _ h => h) (by have := HLEN.out; simp only [List.length_cons, List.length_nil]; omega) (by have := HLEN.out; simp only [List.length_cons, List.length_nil]; omega) (by simp <;> omega) ?_; intro v3 w3 hown3 hg3 hat3; have HOWN3 := Lib.hid hown3; have HB3 := Lib.hid (below_own (((HB5.out.alloc hwp _).alloc (by simp <;> omega) _)) ((HOWN.out.alloc _).alloc _) hg3 (by simp <;> omega)); clear hown3 hg3 hat3)
                go_roundg (n - (j + 1))
                case measure => omega
                case rel => exact ⟨j + 1, by omega, by go_num, rfl, Lib.hid (by rw [HT.out, ← List.append_assoc]; exact HOWN3.out), HB3⟩
            · obtain rfl : j = n := by omega
              have hobj3 := (HB5.out.block w.heap.size (by omega)).trans HOBJ.out
              have k5 := cell_of_row wr w.heap.size 5 _ _ (0, 0) hobj3
              simp [oCells] at k5
              clear hobj3
              have HLEN : Hid ((Opts.flagL (Opts.flagB ⟨q, e, a, i⟩) ++ Opts.partsL (ps.take j)).length ≤ 4 + 2 * j) := Lib.hid (by have := HLEN4.out; rw [List.length_append, Opts.partsL_len, List.length_take]; omega)
              have hlt8 : w.heap.size < wr.heap.size := by omega
              have HLEN6 : Hid (((Opts.flagL (Opts.flagB ⟨q, e, a, i⟩) ++ Opts.partsL (ps.take j)) ++ [(⟨#[45, 45]⟩ : ByteArray)]).length ≤ 5 + 2 * j) := Lib.hid (by have := HLEN.out; rw [List.length_append]; simp only [List.length_cons, List.length_nil]; omega)
              have HFS : Hid (∀ W, Below wo.heap.size wo W → SliceAt Rep.str W (under w.heap.size) C cc fs ∧ W.cell? ⟨w.heap.size, 5, none⟩ = some (.slice C m cc)) := Lib.hid fun W hW => ⟨h2.out.keep (fun _ h => h) (Same.of_below (HB0.out.trans (hW.mono (by omega))) fun _ h => h), by
                have := cell_of_row W w.heap.size 5 _ _ (0, 0) ((hW.block w.heap.size (by omega)).trans HOBJ.out)
                simpa [oCells] using this⟩
              go_wp2_with fail
              go_region_law (first | (refine step_append_Own rfl (.tmp 70) (.tmp 71) 22 rfl Rep.str wo.heap.size 9 16 stStr nob (.slice A5 n5 c5) _ (by simp [Act.eval, Act.put]) (HOWN.out.far ((Below.refl _ wr).alloc (Nat.le_refl _) _).drew) (under (wr.heap.size + 1)) (some ⟨wr.heap.size, 0, none⟩) 1 [⟨#[45, 45]⟩] (by simp [Act.eval, Act.put]) ((str1 wr _ _ _ (by decide) rfl _ (by simp)).keep (fun _ h => h) (fun _ _ => rfl)) nob (fun _ h => h.elim) (fun _ h => h) (fun _ _ h => h) (by have := HLEN.out; simp only [List.length_cons, List.length_nil]; omega) (by have := HLEN.out; simp only [List.length_cons, List.length_nil]; omega) (by simp [World.drew] <;> omega) ?_; intro v6 w6 hown6 hg6 hat6; obtain ⟨A6, n6, c6, rfl, -, -, -⟩ := hown6.form; have HB7 := Lib.hid (below_own ((HB5.out.alloc hwp _).drew) (HOWN.out.far ((Below.refl _ wr).alloc (Nat.le_refl _) _).drew) hg6 (by simp [World.drew] <;> omega)); have k56 := (HFS.out _ HB7.out).2; have HOWN6 := Lib.hid hown6; clear hown6 hg6 hat6) | (refine step_append_Own rfl (.tmp 72) (.tmp 74) 22 rfl Rep.str wo.heap.size 9 16 stStr nob (.slice A6 n6 c6) _ (by simp [Act.eval, Act.put]) HOWN6.out (under w.heap.size) C cc fs (by rw [← hm.out]; simp [Act.eval]) (HFS.out _ HB7.out).1 nob (fun _ h => h.elim) (fun _ h => h) (fun _ _ h => h) (by have := HLEN6.out; have := hm.out; omega) (by have := HLEN6.out; have := hm.out; omega) HB7.out.size ?_; intro v7 w7 hown7 hg7 hat7; have HB8 := Lib.hid (below_own HB7.out HOWN6.out hg7 HB7.out.size); have HOWN7 := Lib.hid hown7; clear hown7 hg7 hat7))
              all_goals (go_wp2_with fail)
              all_goals go_ret
              all_goals
                refine ⟨_, rfl, ?_, HB0.out.trans (HB8.out.mono (by omega))⟩
                unfold Opts.print
                rw [HB.out, if_neg (by simp)]
                have h7 := HOWN7.out.base_le (B' := w.heap.size) (by omega)
                rw [List.take_of_length_le (by have := hn.out; omega)] at h7
                exact h7
end Go.Proofs.YtmjagjcaepbklaaDoor
