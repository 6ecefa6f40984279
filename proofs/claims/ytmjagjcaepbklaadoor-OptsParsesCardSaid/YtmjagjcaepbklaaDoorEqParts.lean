/- Two lists of texts compared: the walk of galleyref00.EqParts. No conditions. -/
import Derived.Test.YtmjagjcaepbklaaDoorProg
import Derived.Test.YtmjagjcaepbklaaDoorEqBytes
import Derived.Test.YtmjagjcaepbklaaDoorOptsParse
import Derived.Test.YtmjagjcaepbklaaDoorEqTexts
import Derived.Laws.StructEq
import Derived.WalkLawsBesides
import Derived.ChangeKeysEq
import Derived.WalkKit
import Derived.WalkSpells
import Derived.Deep.QuietTactic
import Derived.BigQuiet
import Derived.Lib.Hide
namespace Go.Proofs.YtmjagjcaepbklaaDoor
open Go.RowKit

theorem run_neq_prt (a b : Opts.Prt) (w : World) : (binOp .neq 38 (.agg #[.bool a.1, .string a.2]) (.agg #[.bool b.1, .string b.2])).run Tryd.prog w = .ok (.bool (!decide (a = b))) w := by
  have hu : Tryd.prog.underlying 38 = some (.struct (Tryd.prog.fieldsOf 38)) := by kernel_rfl
  have hp : Tryd.prog.stoodInHeld 38 = false := by kernel_rfl
  have hf : (Tryd.prog.fieldsOf 38).toList.map (fun f => (f.name == "_", f.type, f.offset)) = [(false, 4, 0), (false, 9, 1)] := by kernel_rfl
  have k4 : Tryd.prog.underlying 4 = some .bool := by kernel_rfl
  have k9 : Tryd.prog.underlying 9 = some .string := by kernel_rfl
  have q0 : ∀ x : Opts.Prt, (part 4 #[.bool x.1, .string x.2] 0).run Tryd.prog w = .ok (.bool x.1) w := fun _ => by kernel_rfl
  have q1 : ∀ x : Opts.Prt, (part 9 #[.bool x.1, .string x.2] 1).run Tryd.prog w = .ok (.string x.2) w := fun _ => by kernel_rfl
  rw [run_neq_struct, show (10000 : Nat) = 9998 + 1 + 1 from rfl, run_equalIn_struct w (9998 + 1) _ _ _ hu hp]
  generalize (Tryd.prog.fieldsOf 38).toList = fs at hf
  have hl : fs.length = 2 := by simpa using congrArg List.length hf
  rcases fs with _ | ⟨f0, _ | ⟨f1, _ | ⟨f2, fs⟩⟩⟩ <;> simp only [List.length_nil, List.length_cons] at hl <;> try omega
  simp only [List.map_cons, List.map_nil, List.cons.injEq, Prod.mk.injEq, and_true, beq_eq_false_iff_ne] at hf
  obtain ⟨⟨n0, t0, o0⟩, n1, t1, o1⟩ := hf
  simp only [Op.eqFields, n0, n1, t0, t1, o0, o1, ne_eq, not_false_eq_true, if_true, Sem.run_bind, q0, q1, Result.andThen_ok, run_equalIn_bool' w 9998 4 _ _ k4, run_equalIn_string w 9998 9 _ _ k9, Sem.run_ite, Sem.run_pure, texts_eq]
  obtain ⟨a1, a2⟩ := a
  obtain ⟨b1, b2⟩ := b
  simp only [Prod.mk.injEq]
  by_cases h1 : a1 = b1 <;> by_cases h2 : a2 = b2 <;> simp [h1, h2]
theorem SliceAt.prts {w : World} {S : Blocks} {A : Option Addr} {c : Nat} {l : List Opts.Prt} (h : SliceAt Rep.prt w S A c l) {i : Nat} (hi : i < l.length) :
    ∃ g o, A = some ⟨g, o, none⟩ ∧ S g ∧ w.cell? ⟨g, o + i * 2, none⟩ = some (.bool l[i].1) ∧ w.cell? ⟨g, o + i * 2 + 1, none⟩ = some (.string l[i].2) ∧ l[i].2.size ≤ 9223372036854775807 := by
  obtain ⟨g, o, cs, e, hb, hc, _, _, rfl, rfl, rfl, hm⟩ := h.at_ hi
  obtain ⟨h0, h1⟩ := hc.two
  exact ⟨g, o, e, hb, h0, h1, by simpa [maxLen] using hm⟩
set_option maxHeartbeats 1000000 in
theorem eqParts (A B : Option Addr) (c d : Nat) (xs ys : List Opts.Prt) (w : World) (S S' : Blocks) (hx : SliceAt Rep.prt w S A c xs) (hy : SliceAt Rep.prt w S' B d ys) :
    Calls Tryd.prog 30 #[.slice A xs.length c, .slice B ys.length d] w fun e w' => e = .returned (.bool (decide (xs = ys))) ∧ ∃ n, w' = w.drewN n := by
  have hcx := hx.len
  have hcx' := hx.max
  have hcy := hy.len
  have hcy' := hy.max
  have HX := Lib.hid hx
  have HY := Lib.hid hy
  clear hx hy
  by_cases h : xs.length = ys.length
  · obtain ⟨n, hn⟩ : ∃ n, n = xs.length := ⟨_, rfl⟩
    have hn' : ys.length = n := by omega
    have HN := Lib.hid hn
    have HN' := Lib.hid hn'
    rw [← h, ← hn]
    rw [← hn] at hcx
    clear h hn hn' hcy
    have h2 : (n != n) = false := by simp
    go_enter Tryd.func30, Tryd.ntmps30
    go_wp2
    go_loopw [5] (fun i wr => ∃ k nd : Nat, k ≤ n ∧ i = .int .i64 k ∧ wr = w.drewN nd ∧ xs.take k = ys.take k) (fun i _ => n - (intOf i).toNat)
    case atStart => exact ⟨0, 0, Nat.zero_le _, rfl, rfl, rfl⟩
    case round =>
      obtain ⟨k, nd, hk, rfl, rfl, ht⟩ := hrel
      have HT := Lib.hid ht
      clear ht
      by_cases hlt : k < n
      · have hkx : k < xs.length := by have := HN.out; omega
        have hky : k < ys.length := by have := HN'.out; omega
        obtain ⟨g, o, rfl, -, hcx0, hcx1, -⟩ := HX.out.prts hkx
        obtain ⟨g', o', rfl, -, hcy0, hcy1, -⟩ := HY.out.prts hky
        have hkx' := Lib.hid hkx
        have hky' := Lib.hid hky
        obtain ⟨a, ha, hcx, hcx2⟩ : ∃ a, a = xs[k] ∧ w.cell? ⟨g, o + k * 2, none⟩ = some (.bool a.1) ∧ w.cell? ⟨g, o + k * 2 + 1, none⟩ = some (.string a.2) := ⟨_, rfl, hcx0, hcx1⟩
        obtain ⟨b, hb, hcy, hcy2⟩ : ∃ b, b = ys[k] ∧ w.cell? ⟨g', o' + k * 2, none⟩ = some (.bool b.1) ∧ w.cell? ⟨g', o' + k * 2 + 1, none⟩ = some (.string b.2) := ⟨_, rfl, hcy0, hcy1⟩
        clear hcx0 hcy0 hcx1 hcy1
        have hneq := run_neq_prt a b
        by_cases he : xs[k] = ys[k]
        · obtain rfl : b = a := by rw [ha, hb, he]
          simp only [decide_true, Bool.not_true] at hneq
          have HE := Lib.hid he
          clear he ha hb
          go_wp2
          go_quiet (fail)
          go_wp2
          go_roundw
          case rel => exact ⟨k + 1, nd + nq, by omega, by go_num, rfl, take_succ_eq HT.out hkx'.out hky'.out HE.out⟩
          case measure => simp [intOf]; omega
        · rw [decide_eq_false (show ¬ a = b by rw [ha, hb]; exact he)] at hneq
          simp only [Bool.not_false] at hneq
          have HE := Lib.hid (ne_of_at hkx hky he)
          clear he ha hb
          go_wp2
          go_quiet (fail)
          go_wp2
          go_ret
          exact ⟨retB HE.out, _, World.drewN_drewN _ _ _⟩
      · have hxy : decide (xs = ys) = true := by
          have h1 := HT.out
          rw [List.take_of_length_le (by have := HN.out; omega), List.take_of_length_le (by have := HN'.out; omega)] at h1
          exact decide_eq_true h1
        have HXY := Lib.hid hxy
        clear hxy
        go_wp2
        go_ret
        exact ⟨retB HXY.out, _, rfl⟩
  · have hd : decide (xs = ys) = false := by rw [decide_eq_false_iff_not]; rintro rfl; exact h rfl
    have h2 : (xs.length != ys.length) = true := by simpa using h
    have HD := Lib.hid hd
    clear h hd
    go_enter Tryd.func30, Tryd.ntmps30
    go_wp2
    go_ret
    exact ⟨retB HD.out, 0, rfl⟩

end Go.Proofs.YtmjagjcaepbklaaDoor
