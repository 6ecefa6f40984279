/- Texts that lead to the claim, one behind the other: An output whose sink appends to a file of a disk: what it is in memory; the sink, New, Err. Condition: the counts are below 2^40. | What an output holds is handed on: the walks of (outs.Out).handOn, its deferred closure. Condition: the counts are below 2^40. | The walks of (outs.Out).Flush, Write. Condition: the counts are below 2^40. | The walk of (outs.Out).Write. Condition: the counts are below 2^40. -/
import Derived.Test.YtfommpbblpnljaaWH20
import Derived.Test.YtfommpbblpnljaaWH24
import Derived.Test.YtfommpbblpnljaaWH25
import Derived.Test.YtfommpbblpnljaaWH17
import Derived.Test.YtfommpbblpnljaaWH16
import Derived.Test.YtfommpbblpnljaaWH12
import Derived.Defers
import Derived.Deep.RegionHeld3
import Derived.StillTailTactics
import Derived.Test.YtfommpbblpnljaaWH26
namespace Go.Proofs.Ytfommpbblpnljaa
open Go.RowKit Go.ChangeShapes Go.WideShapes Go.Deep

def sinkV (dB tB : Nat) : Value := .func (.func 31) #[] #[.pointer (some ⟨dB, 0, none⟩), .pointer (some ⟨tB, 0, none⟩)]
/-- An output, the disk that its sink writes to, the two boxes of the sink; F the disk's blocks, X the output's, all of them in G. -/
structure OutB (w : World) (F X G : Blocks) (d : Nat) (s : Disk.St) (t : Disk.Nm) (o dB tB : Nat) (ou : Disk.Ou) (A : Option Addr) (c : Nat) (cnt : Int) : Prop where
  disk : DiskAt w F d s
  out : w.heap[o]? = some (.cells #[.int .i64 64, sinkV dB tB, .slice A ou.held.length c, .int .i64 ou.err, .int .i64 cnt] 106 (0, 0))
  held : Own Rep.byte 5 w 0 nob (.slice A ou.held.length c) ou.held
  bd : Boxed w dB 22 (.pointer (some ⟨d, 0, none⟩))
  bt : Boxed w tB 9 (.string (ba t))
  Xo : X o
  Xd : X dB
  Xt : X tB
  Xh : ∀ b, (Value.slice A ou.held.length c).ownBlock = some b → X b
  ub : ∀ b, X b → b < w.heap.size ∧ ¬ F b
  gf : ∀ b, F b → G b
  gx : ∀ b, X b → G b
  lt : ∀ b, G b → b < w.heap.size
def OutS (w : World) (G : Blocks) (d : Nat) (s : Disk.St) (t : Disk.Nm) (o dB tB : Nat) (ou : Disk.Ou) : Prop := ∃ F X A c cnt, OutB w F X G d s t o dB tB ou A c cnt
/-- A call of the output, or of the disk. -/
def OutCall (w : World) (G : Blocks) (d : Nat) (t : Disk.Nm) (o dB tB : Nat) (r : Disk.St × Disk.Ou × Int) (e : Ending) (w' : World) : Prop :=
  e = .returned (.int .i64 r.2.2) ∧ OutS w' (grow G w w') d r.1 t o dB tB r.2.1 ∧ Only G w w'
section
variable {w w' : World} {F X G : Blocks} {d : Nat} {s : Disk.St} {t : Disk.Nm} {o dB tB : Nat} {ou : Disk.Ou} {A : Option Addr} {c : Nat} {cnt : Int}
theorem OutB.keep (h : OutB w F X G d s t o dB tB ou A c cnt) {s' : Disk.St} {F' : Blocks} (hd : DiskAt w' F' d s') (hF : ∀ b, F' b → F b ∨ (w.heap.size ≤ b ∧ b < w'.heap.size)) (ho : Only F w w') : OutB w' F' X (grow G w w') d s' t o dB tB ou A c cnt := by
  have hs : ∀ b, X b → w'.heap[b]? = w.heap[b]? := fun b hb => ho.block b (h.ub b hb).1 (h.ub b hb).2
  exact { disk := hd, out := (hs o h.Xo).trans h.out, held := h.held.only ho fun b hb => (h.ub b (h.Xh b hb)).2, bd := (hs _ h.Xd).trans h.bd, bt := (hs _ h.Xt).trans h.bt, Xo := h.Xo, Xd := h.Xd, Xt := h.Xt, Xh := h.Xh,
          ub := fun b hb => ⟨Nat.lt_of_lt_of_le (h.ub b hb).1 ho.size, fun hf => (hF b hf).elim (h.ub b hb).2 fun hf => by have := (h.ub b hb).1; omega⟩,
          gf := fun b hb => (hF b hb).elim (fun hb => .inl (h.gf b hb)) .inr, gx := fun b hb => .inl (h.gx b hb), lt := grow_lt h.lt ho.size }
theorem OutB.call (h : OutB w F X G d s t o dB tB ou A c cnt) {r : Disk.St × Int} {e : Ending} (hc : DiskCall w F d r e w') : e = .returned (.int .i64 r.2) ∧ OutB w' (grow F w w') X (grow G w w') d r.1 t o dB tB ou A c cnt ∧ Only G w w' :=
  ⟨hc.1, h.keep hc.2.1 (fun _ hb => hb) hc.2.2, hc.2.2.mono h.gf⟩
theorem OutB.far (h : OutB w F X G d s t o dB tB ou A c cnt) (hb : Below w.heap.size w w') : OutB w' F X (grow G w w') d s t o dB tB ou A c cnt :=
  h.keep (by obtain ⟨loc, blk, bn, bo, rowv, pA, pC, hB⟩ := h.disk; exact (hB.far hb).at_) (fun _ hb => .inl hb) (Only.of_below hb F)
theorem OutB.up {G' : Blocks} (h : OutB w F X G d s t o dB tB ou A c cnt) (hg : ∀ b, G b → G' b) (hl : ∀ b, G' b → b < w.heap.size) : OutB w F X G' d s t o dB tB ou A c cnt :=
  { h with gf := fun b hb => hg b (h.gf b hb), gx := fun b hb => hg b (h.gx b hb), lt := hl }
theorem OutB.at_ (h : OutB w F X G d s t o dB tB ou A c cnt) : OutS w G d s t o dB tB ou := ⟨F, X, A, c, cnt, h⟩
theorem grow_grow {w0 w1 w2 : World} {G : Blocks} (h1 : w0.heap.size ≤ w1.heap.size) (h2 : w1.heap.size ≤ w2.heap.size) : ∀ b, grow (grow G w0 w1) w1 w2 b → grow G w0 w2 b := by
  rintro b ((hb | hb) | hb)
  · exact .inl hb
  · exact .inr ⟨hb.1, Nat.lt_of_lt_of_le hb.2 h2⟩
  · exact .inr ⟨Nat.le_trans h1 hb.1, hb.2⟩
set_option maxRecDepth 100000 in
/-- The sink. -/
theorem sink_any (H : Hid (OutB w F X G d s t o dB tB ou A c cnt)) (hf : Hid (Disk.Fine s)) {k : Nat} (hk : Hid (Disk.Small k s)) (hkb : k ≤ 1099511627776) (ht : t.length ≤ maxLen) (B : Option Addr) (n bc : Nat) (l : List UInt8) (S : Blocks) (hn : Hid (n = l.length)) (hl : Hid (SliceAt Rep.byte w S B bc l)) (hS : Hid (∀ b, S b → b < w.heap.size ∧ ¬ F b)) (hb : n ≤ 1099511627776) :
    Calls Try.prog 31 #[.slice B n bc, .pointer (some ⟨dB, 0, none⟩), .pointer (some ⟨tB, 0, none⟩)] w (DiskCall w F d (s.append t l)) := by
  have HAP := Lib.hid (append_any (ba t) (by rw [ba_size]; exact ht) B n bc l S hn hl hS (by omega) (Lib.hid H.out.disk) hf hk hkb)
  rw [show (ba t).data.toList = t from rfl] at HAP
  have c0 := H.out.bd.cell
  have c1 := H.out.bt.cell
  have hnc : n ≤ bc := by rw [hn.out]; exact hl.out.len
  have hcm := hl.out.max
  go_enter Try.func31, Try.ntmps31
  go_wp2_with fail
  refine HAP.out.mono ?_
  rintro e w1 ⟨rfl, h1⟩
  have H1 := Lib.hid h1
  clear h1
  go_wp2_with fail
  have q1 : Try.f31.results = #[.tmp 4] := rfl
  refine ⟨rfl, _, results_tmp q1 _ _ _, ⟨rfl, H1.out⟩⟩
set_option maxRecDepth 100000 in
/-- Err. -/
theorem err_any (H : Hid (OutB w F X G d s t o dB tB ou A c cnt)) : Calls Try.prog 57 #[.pointer (some ⟨o, 0, none⟩)] w fun e w' => e = .returned (.int .i64 ou.err) ∧ w = w' := by
  have c1 : w.cell? ⟨o, 1, none⟩ = some (sinkV dB tB) := (cell_of_row w o 1 _ _ (0, 0) H.out.out).trans rfl
  have c3 : w.cell? ⟨o, 3, none⟩ = some (.int .i64 ou.err) := (cell_of_row w o 3 _ _ (0, 0) H.out.out).trans rfl
  unfold sinkV at c1
  have hnf : ∀ W, (binOp .eql 75 (.func (.func 31) #[] #[.pointer (some ⟨dB, 0, none⟩), .pointer (some ⟨tB, 0, none⟩)]) .nilFunc).run Try.prog W = .ok (.bool false) W := fun _ => rfl
  obtain ⟨er, her⟩ : ∃ er, er = ou.err := ⟨_, rfl⟩
  rw [← her] at c3 ⊢
  clear her
  go_enter Try.func57, Try.ntmps57
  go_wp2_with fail
  go_ret
  exact ⟨rfl, rfl⟩
/-- The output's own block turned. -/
theorem OutB.turn (h : OutB w F X G d s t o dB tB ou A c cnt) (ho : Only (fun b => b = o) w w') {ou' : Disk.Ou} {cnt' : Int} (hout : w'.heap[o]? = some (.cells #[.int .i64 64, sinkV dB tB, .slice A ou'.held.length c, .int .i64 ou'.err, .int .i64 cnt'] 106 (0, 0)))
    (hheld : Own Rep.byte 5 w' 0 nob (.slice A ou'.held.length c) ou'.held) (hb : (Value.slice A ou'.held.length c).ownBlock = (Value.slice A ou.held.length c).ownBlock) : OutB w' F X (grow G w w') d s t o dB tB ou' A c cnt' := by
  have hne : ∀ b ty v, Boxed w b ty v → ty ≠ 106 → Boxed w' b ty v := fun b ty v hv hty => (ho.block b hv.lt (ne_cells hv h.out hty)).trans hv
  obtain ⟨loc, blk, bn, bo, rowv, pA, pC, hB⟩ := h.disk
  exact { disk := (hB.only ho fun b hb e => (h.ub o h.Xo).2 (e ▸ hb)).at_, out := hout, held := hheld, bd := hne _ _ _ h.bd (by decide), bt := hne _ _ _ h.bt (by decide), Xo := h.Xo, Xd := h.Xd, Xt := h.Xt, Xh := fun b hb' => h.Xh b (hb ▸ hb'),
          ub := fun b hb => ⟨Nat.lt_of_lt_of_le (h.ub b hb).1 ho.size, (h.ub b hb).2⟩, gf := fun b hb => .inl (h.gf b hb), gx := fun b hb => .inl (h.gx b hb), lt := grow_lt h.lt ho.size }
theorem own_zero {base g n c : Nat} {l : List UInt8} (h : Own Rep.byte 5 w base nob (.slice (some ⟨g, 0, none⟩) n c) l) : Own Rep.byte 5 w base nob (.slice (some ⟨g, 0, none⟩) 0 c) [] := by
  obtain ⟨xs, ⟨hxl, hv⟩, -, -, -⟩ := h
  rcases hv with ⟨hv, -⟩ | ⟨g', cap, cur, hv, hb, hg, hle, hmax, hsz, -⟩
  · cases hv
  · simp only [Value.slice.injEq, Option.some.injEq, Addr.mk.injEq] at hv
    obtain ⟨⟨rfl, -⟩, -, rfl⟩ := hv
    exact ⟨[], ⟨by simp, .inr ⟨g, c, cur, rfl, hb, hg, Nat.zero_le _, hmax, hsz, by simp⟩⟩, fun _ h => h.elim, by simp, fun i hi => absurd hi (by simp)⟩
theorem own_some {base n c : Nat} {A : Option Addr} {l : List UInt8} (h : Own Rep.byte 5 w base nob (.slice A n c) l) (h0 : l ≠ []) : ∃ g, A = some ⟨g, 0, none⟩ ∧ n ≤ c := by
  obtain ⟨xs, ⟨hxl, hv⟩, -, -, -⟩ := h
  rcases hv with ⟨hv, hz⟩ | ⟨g', cap, cur, hv, hb, hg, hle, hmax, hsz, -⟩
  · exact absurd (List.eq_nil_of_length_eq_zero hz) h0
  · simp only [Value.slice.injEq] at hv
    obtain ⟨rfl, rfl, rfl⟩ := hv
    exact ⟨g', rfl, hle⟩
theorem OutB.setErr (h : OutB w F X G d s t o dB tB ou A c cnt) (q : Int) : OutB (w.setCell ⟨o, 3, none⟩ (.int .i64 q)) F X (grow G w (w.setCell ⟨o, 3, none⟩ (.int .i64 q))) d s t o dB tB ⟨ou.held, q⟩ A c cnt := by
  have ho : Only (fun b => b = o) w (w.setCell ⟨o, 3, none⟩ (.int .i64 q)) := Only.setCell (Only.refl (fun b => b = o) w) (.inl rfl) _
  refine h.turn ho (by simp [World.setCell, Array.getElem?_modify, h.out]) (h.held.only ho fun b hb e => ?_) rfl
  obtain ⟨cur, hc⟩ := h.held.content hb
  rw [e] at hc
  rw [h.out] at hc
  injection hc with hc
  injection hc with _ e2
  exact absurd e2 (by decide)
end
end Go.Proofs.Ytfommpbblpnljaa
namespace Go.Proofs.Ytfommpbblpnljaa
open Go.RowKit Go.ChangeShapes Go.WideShapes Go.Deep

theorem boxed_far' {W : World} {b g i : Nat} {ty : TypeId} {v u : Value} (h : Boxed W b ty v) (hne : b ≠ g) : Boxed (W.setCell ⟨g, i, none⟩ u) b ty v := (Below.heap_setCell _ _ _ _ hne).trans h
theorem eSink : ∀ args w, (callFunc 31 args).run Try.prog w = .ok (.enter 31 args) w := enters_of Try.func31 (by kernel_rfl) rfl
section
variable {w w' : World} {F X G : Blocks} {d : Nat} {s : Disk.St} {t : Disk.Nm} {o dB tB : Nat} {ou : Disk.Ou} {A : Option Addr} {c : Nat} {cnt : Int}
set_option maxRecDepth 100000 in
set_option maxHeartbeats 2000000 in
/-- The deferred closure: nothing is held any more. -/
theorem handOn_def (b0 b1 g n c : Nat) (sk : Value) (er cnt : Int) (m : Nat) (u : FrameMode) (h0 : Boxed w b0 33 (.pointer (some ⟨o, 0, none⟩))) (h1 : Boxed w b1 3 (.int .i64 m))
    (ho : w.heap[o]? = some (.cells #[.int .i64 64, sk, .slice (some ⟨g, 0, none⟩) n c, .int .i64 er, .int .i64 cnt] 106 (0, 0))) (_ : n ≤ c) :
    CallsD Try.prog 71 #[.pointer (some ⟨b0, 0, none⟩), .pointer (some ⟨b1, 0, none⟩)] u w fun e u' w' => u' = u ∧ e = .returned (.tuple #[]) ∧ (∃ cnt', w'.heap[o]? = some (.cells #[.int .i64 64, sk, .slice (some ⟨g, 0, none⟩) 0 c, .int .i64 er, .int .i64 cnt'] 106 (0, 0))) ∧ Only (fun b => b = o) w w' := by
  have c0 := h0.cell
  have c1 := h1.cell
  have k2 : w.cell? ⟨o, 2, none⟩ = some (.slice (some ⟨g, 0, none⟩) n c) := (cell_of_row w o 2 _ _ (0, 0) ho).trans rfl
  have k3 : w.cell? ⟨o, 3, none⟩ = some (.int .i64 er) := (cell_of_row w o 3 _ _ (0, 0) ho).trans rfl
  have k4 : w.cell? ⟨o, 4, none⟩ = some (.int .i64 cnt) := (cell_of_row w o 4 _ _ (0, 0) ho).trans rfl
  have kf : ∀ i, w.frozen? ⟨o, i, none⟩ = false := fun i => by simp [World.frozen?, ho]
  go_enter_d Try.func71, Try.ntmps71
  have HO := Lib.hid ho
  have h0o : b0 ≠ o := ne_cells h0 ho (by decide)
  have h1o : b1 ≠ o := ne_cells h1 ho (by decide)
  obtain ⟨W, hW⟩ : ∃ W, W = (w.setCell ⟨o, 2, none⟩ (.slice (some ⟨g, 0, none⟩) 0 c)).drew := ⟨_, rfl⟩
  have hWo : W.heap[o]? = some (.cells #[.int .i64 64, sk, .slice (some ⟨g, 0, none⟩) 0 c, .int .i64 er, .int .i64 cnt] 106 (0, 0)) := by rw [hW]; simp [World.setCell, World.drew, Array.getElem?_modify, ho]
  have hWO : Only (fun b => b = o) w W := by rw [hW]; exact (Only.setCell (Only.refl (fun b => b = o) w) (.inl rfl) _).drewN 1
  have hW0 : Boxed W b0 33 (.pointer (some ⟨o, 0, none⟩)) := (hWO.block b0 h0.lt h0o).trans h0
  have hW1 : Boxed W b1 3 (.int .i64 m) := (hWO.block b1 h1.lt h1o).trans h1
  have HWO := Lib.hid hWO
  have HWOO := Lib.hid hWo
  clear ho h0 h1 h0o h1o hWO
  by_cases her : er = 0
  · subst her
    go_wp2_with fail
    go_still_tail 8, (by kernel_rfl)
    go_wp2_with fail
    rw [← hW]
    have d0 := hW0.cell
    have d1 := hW1.cell
    have d4 : W.cell? ⟨o, 4, none⟩ = some (.int .i64 cnt) := (cell_of_row W o 4 _ _ (0, 0) hWo).trans rfl
    have df : ∀ i, W.frozen? ⟨o, i, none⟩ = false := fun i => by simp [World.frozen?, hWo]
    clear c0 c1 k2 k3 k4 kf hW hWo hW0 hW1
    go_still_tail 8, (by kernel_rfl)
    go_wp2_with fail
    go_end0
    refine ⟨rfl, ⟨wrap64 (cnt + m), ?_⟩, (HWO.out.setCell (.inl rfl) _).drewN 1⟩
    have := HWOO.out
    simp [World.setCell, World.drew, Array.getElem?_modify, this]
  · have hb : (er == 0) = false := beq_eq_false_iff_ne.2 her
    go_wp2_with fail
    go_still_tail 8, (by kernel_rfl)
    go_wp2_with fail
    rw [← hW]
    go_end0
    exact ⟨rfl, ⟨cnt, HWOO.out⟩, HWO.out⟩
set_option linter.unusedSimpArgs false in
set_option maxRecDepth 100000 in
set_option maxHeartbeats 4000000 in
theorem handOn_some (H : Hid (OutB w F X G d s t o dB tB ou A c cnt)) (hf : Hid (Disk.Fine s)) {k : Nat} (hk : Hid (Disk.Small k s)) (hkb : k ≤ 1099511627776) (ht : t.length ≤ maxLen) (hne : Hid (ou.held ≠ [])) (hlen : ou.held.length ≤ 1099511627776) :
    Calls Try.prog 65 #[.pointer (some ⟨o, 0, none⟩)] w (OutCall w G d t o dB tB (s.handOn t ou)) := by
  obtain ⟨m, hm⟩ : ∃ m, m = ou.held.length := ⟨_, rfl⟩
  have hmf : ∀ (fn : Fn) (first cap : Array Value) (w : World), (Instr.makeFunc fn first cap).run Try.prog w = .ok (.func fn first cap) w := fun _ _ _ _ => rfl
  have k2 : w.cell? ⟨o, 2, none⟩ = some (.slice A m c) := by rw [hm]; exact (cell_of_row w o 2 _ _ (0, 0) H.out.out).trans rfl
  have hm0 : (m == 0) = false := by
    rw [beq_eq_false_iff_ne, hm]
    intro e
    exact hne.out (List.eq_nil_of_length_eq_zero e)
  have hm1 : 1 ≤ m := by have : m ≠ 0 := by simpa using hm0
                         omega
  have hmc : m ≤ c := by
    obtain ⟨A', c', he, hs⟩ := H.out.held.slice
    simp only [Value.slice.injEq] at he
    obtain ⟨rfl, -, rfl⟩ := he
    rw [hm]; exact hs.len
  have HM := Lib.hid hm
  rw [← hm] at hlen
  clear hm
  have hol : o < w.heap.size := (H.out.ub o H.out.Xo).1
  go_enter_defers Try.func65, Try.ntmps65
  go_wp2_with fail
  obtain ⟨W, hW⟩ : ∃ W, W = (w.alloc (.cells #[.pointer (some ⟨o, 0, none⟩)] 33)).alloc (.cells #[.int .i64 (m : Nat)] 3) := ⟨_, rfl⟩
  have hbW : Below w.heap.size w W := by rw [hW]; exact Below.alloc (Below.alloc (Below.refl _ _) (Nat.le_refl _) _) (by simp) _
  have b0 : Boxed W w.heap.size 33 (.pointer (some ⟨o, 0, none⟩)) := by rw [hW]; exact (Boxed.new w _ _).alloc _
  have b1 : Boxed W (w.heap.size + 1) 3 (.int .i64 (m : Nat)) := by
    rw [hW]
    have := Boxed.new (w.alloc (.cells #[.pointer (some ⟨o, 0, none⟩)] 33)) 3 (.int .i64 (m : Nat))
    rwa [World.size_alloc] at this
  rw [← hW]
  have HW := Lib.hid (H.out.far hbW)
  have HBW := Lib.hid hbW
  have HB0 := Lib.hid b0
  have HB1 := Lib.hid b1
  have HSZ : Hid (W.heap.size = w.heap.size + 2) := Lib.hid (by rw [hW]; simp)
  -- what the loads read, in whatever world
  have HL : Hid (∀ w1 : World, (∀ b, b = o ∨ b = w.heap.size → w1.heap[b]? = W.heap[b]?) → w1.cell? ⟨w.heap.size, 0, none⟩ = some (.pointer (some ⟨o, 0, none⟩)) ∧ w1.cell? ⟨o, 1, none⟩ = some (sinkV dB tB) ∧ w1.cell? ⟨o, 2, none⟩ = some (.slice A m c) ∧ w1.cell? ⟨o, 3, none⟩ = some (.int .i64 ou.err) ∧ ∀ i, w1.frozen? ⟨o, i, none⟩ = false) := Lib.hid fun w1 hw1 => by
    have h1 : w1.heap[o]? = _ := (hw1 o (.inl rfl)).trans HW.out.out
    have h2 : Boxed w1 w.heap.size 33 (.pointer (some ⟨o, 0, none⟩)) := (hw1 _ (.inr rfl)).trans b0
    refine ⟨h2.cell, (cell_of_row w1 o 1 _ _ (0, 0) h1).trans rfl, ?_, (cell_of_row w1 o 3 _ _ (0, 0) h1).trans rfl, fun i => by simp [World.frozen?, h1]⟩
    rw [HM.out]; exact (cell_of_row w1 o 2 _ _ (0, 0) h1).trans rfl
  clear hW hbW b0 b1 k2 hmf hm0 hol
  have HCL : Hid (∀ u, Below W.heap.size W u → Calls Try.prog 45 #[.slice A m c] u fun e w' => ∃ A' c', e = .returned (.slice A' m c') ∧ m ≤ c' ∧ c' ≤ 9223372036854775807 ∧ SliceAt Rep.byte w' (btw W.heap.size w'.heap.size) A' c' ou.held ∧ Below W.heap.size W w') := Lib.hid fun u hu => by
    obtain ⟨A1, c1, he, hs⟩ := HW.out.held.slice
    simp only [Value.slice.injEq] at he
    obtain ⟨rfl, -, rfl⟩ := he
    have hSl : ∀ b, (fun b => (0 ≤ b ∧ b < W.heap.size ∧ (Value.slice A ou.held.length c).ownBlock = some b) ∨ nob b) b → b < W.heap.size := fun b hb => hb.elim (fun h => h.2.1) fun h => h.elim
    refine (cloneBytes A m c ou.held u _ HM (Lib.hid (hs.keep (fun _ h => h) (Same.of_below hu fun b hb => ?_))) (Lib.hid fun b hb => ?_) hlen).mono ?_
    · rcases hb with hb | hb
      · exact hb.2.1
      · exact hb.elim
    · rcases hb with hb | hb
      · exact Nat.lt_of_lt_of_le hb.2.1 hu.size
      · exact hb.elim
    · rintro e w' ⟨A', c', rfl, h1, h2, h3, h4⟩
      obtain ⟨A2, c2, he2, hs2⟩ := h3.slice
      simp only [Value.slice.injEq] at he2
      obtain ⟨rfl, -, rfl⟩ := he2
      refine ⟨A', c', rfl, h1, h2, hs2.up fun b hb => ?_, hu.trans (h4.mono hu.size)⟩
      rcases hb with hb | hb
      · exact ⟨Nat.le_trans hu.size hb.1, hb.2.1⟩
      · exact hb.elim
  have HSK : Hid (∀ u A' c', Below W.heap.size W u → SliceAt Rep.byte u (btw W.heap.size u.heap.size) A' c' ou.held → Calls Try.prog 31 (#[.slice A' m c'] ++ #[.pointer (some ⟨dB, 0, none⟩), .pointer (some ⟨tB, 0, none⟩)]) u fun e w' => DiskCall u F d (s.append t ou.held) e w') := Lib.hid fun u A' c' hu hs =>
    sink_any (Lib.hid (HW.out.far hu)) hf hk hkb ht A' m c' ou.held _ HM (Lib.hid hs) (Lib.hid fun b hb => ⟨hb.2, fun h => by
      obtain ⟨loc, blk, bn, bo, rowv, pA, pC, hB⟩ := HW.out.disk
      have := hB.lt b h
      have := hb.1
      omega⟩) hlen
  obtain ⟨r, hr⟩ : ∃ r, r = s.append t ou.held := ⟨_, rfl⟩
  rw [← hr] at HSK
  obtain ⟨q, hq⟩ : ∃ q, q = r.2 := ⟨_, rfl⟩
  have HR := Lib.hid hr
  have HQ := Lib.hid hq
  clear hr hq
  obtain ⟨k0, k1, k2, k3, kf⟩ := HL.out W fun _ _ => rfl
  unfold sinkV at k1
  have HLT : Hid (∀ b, b = o ∨ b = w.heap.size → b < W.heap.size ∧ ¬ F b) := Lib.hid fun b hb => by
    rcases hb with rfl | rfl
    · exact HW.out.ub _ HW.out.Xo
    · refine ⟨by rw [HSZ.out]; omega, fun h => ?_⟩
      have := H.out.lt _ (H.out.gf _ h); omega
  have HBX : Hid (∀ w2 w3, Below W.heap.size W w2 → DiskCall w2 F d r (.returned (.int .i64 q)) w3 → (∃ F', OutB w3 F' X (grow G w w3) d r.1 t o dB tB ou A c cnt) ∧ Boxed w3 w.heap.size 33 (.pointer (some ⟨o, 0, none⟩)) ∧ Boxed w3 (w.heap.size + 1) 3 (.int .i64 (m : Nat)) ∧ Only G w w3) := Lib.hid fun w2 w3 h1 h2 => by
    have h3 := H.out.far (HBW.out.trans (h1.mono HBW.out.size))
    obtain ⟨-, h4, h5⟩ := h3.call h2
    have hso : ∀ b, b < W.heap.size → ¬ F b → w3.heap[b]? = W.heap[b]? := fun b hb hf => (h2.2.2.block b (Nat.lt_of_lt_of_le hb h1.size) hf).trans (h1.block b hb)
    have hnf : ∀ b, w.heap.size ≤ b → ¬ F b := fun b hb h => by have := H.out.lt _ (H.out.gf _ h); omega
    refine ⟨⟨_, h4.up (G' := grow G w w3) (fun b hb => grow_grow (Nat.le_trans HBW.out.size h1.size) h2.2.2.size b hb) (grow_lt H.out.lt (Nat.le_trans HBW.out.size (Nat.le_trans h1.size h2.2.2.size)))⟩, (hso _ (by rw [HSZ.out]; omega) (hnf _ (Nat.le_refl _))).trans HB0.out, (hso _ (by rw [HSZ.out]; omega) (hnf _ (by omega))).trans HB1.out, ?_⟩
    exact (Only.of_below (HBW.out.trans (h1.mono HBW.out.size)) G).trans (h2.2.2.mono H.out.gf) fun x hx => .inl hx
  clear HB0 HB1
  go_cut [] from 12 (fun wc => ∃ F', Hid (OutB wc F' X (grow G w wc) d r.1 t o dB tB ⟨ou.held, q⟩ A c cnt) ∧ Hid (Boxed wc w.heap.size 33 (.pointer (some ⟨o, 0, none⟩))) ∧ Hid (Boxed wc (w.heap.size + 1) 3 (.int .i64 (m : Nat))) ∧ Hid (Only G w wc))
  case first =>
    have HK0 := Lib.hid (And.intro k0 (And.intro k1 k2))
    refine wp_region_noPanic ?_
    refine wp_region_held_drew (S := fun u => u.cell? ⟨w.heap.size, 0, none⟩ = some (.pointer (some ⟨o, 0, none⟩)) ∧ u.cell? ⟨o, 1, none⟩ = some (.func (.func 31) #[] #[.pointer (some ⟨dB, 0, none⟩), .pointer (some ⟨tB, 0, none⟩)]) ∧ u.cell? ⟨o, 2, none⟩ = some (.slice A m c)) (by kernel_rfl) HK0.out (fun hHeld => ?_)
    refine wpAnyH_take (i := 0) (v := ?_) rfl (by kernel_rfl) (by kernel_rfl) (by kernel_rfl) (fun _ _ _ h => h) (Or.inl ⟨by rfl, ?_⟩) (by assumption) ?_
    rotate_left 1
    · (intro w hSw; (try dsimp only at hSw); go_simp <;> (try with_reducible rfl))
    try simp only [Act.put, List.setIfInBounds_toArray, List.set_cons_zero, List.set_cons_succ]
    refine wpAnyH_take (i := 1) (v := ?_) rfl (by kernel_rfl) (by kernel_rfl) (by kernel_rfl) (fun _ _ _ h => h) (Or.inl ⟨by rfl, ?_⟩) (by assumption) ?_
    rotate_left 1
    · (intro w hSw; (try dsimp only at hSw); go_simp <;> (try with_reducible rfl))
    try simp only [Act.put, List.setIfInBounds_toArray, List.set_cons_zero, List.set_cons_succ]
    refine wpAnyH_take (i := 2) (v := ?_) rfl (by kernel_rfl) (by kernel_rfl) (by kernel_rfl) (fun _ _ _ h => h) (Or.inl ⟨by rfl, ?_⟩) (by assumption) ?_
    rotate_left 1
    · (intro w hSw; (try dsimp only at hSw); go_simp <;> (try with_reducible rfl))
    try simp only [Act.put, List.setIfInBounds_toArray, List.set_cons_zero, List.set_cons_succ]
    refine wpAnyH_take (i := 3) (v := ?_) rfl (by kernel_rfl) (by kernel_rfl) (by kernel_rfl) (fun _ _ _ h => h) (Or.inl ⟨by rfl, ?_⟩) (by assumption) ?_
    rotate_left 1
    · (intro w hSw; (try dsimp only at hSw); go_simp <;> (try with_reducible rfl))
    try simp only [Act.put, List.setIfInBounds_toArray, List.set_cons_zero, List.set_cons_succ]
    refine wpAnyH_take (i := 4) (v := ?_) rfl (by kernel_rfl) (by kernel_rfl) (by kernel_rfl) (fun _ _ _ h => h) (Or.inl ⟨by rfl, ?_⟩) (by assumption) ?_
    rotate_left 1
    · (intro w hSw; (try dsimp only at hSw); go_simp <;> (try with_reducible rfl))
    try simp only [Act.put, List.setIfInBounds_toArray, List.set_cons_zero, List.set_cons_succ]
    refine wpAnyH_take (i := 5) (v := ?_) rfl (by kernel_rfl) (by kernel_rfl) (by kernel_rfl) (fun _ _ _ h => h) (Or.inl ⟨by rfl, ?_⟩) (by assumption) ?_
    rotate_left 1
    · (intro w hSw; (try dsimp only at hSw); go_simp <;> (try with_reducible rfl))
    try simp only [Act.put, List.setIfInBounds_toArray, List.set_cons_zero, List.set_cons_succ]
    refine wpAnyH_take (i := 6) (v := ?_) rfl (by kernel_rfl) (by kernel_rfl) (by kernel_rfl) (fun _ _ _ h => h) (Or.inl ⟨by rfl, ?_⟩) (by assumption) ?_
    rotate_left 1
    · (intro w hSw; (try dsimp only at hSw); go_simp <;> (try with_reducible rfl))
    try simp only [Act.put, List.setIfInBounds_toArray, List.set_cons_zero, List.set_cons_succ]
    refine wpAnyH_take (i := 7) (v := ?_) rfl (by kernel_rfl) (by kernel_rfl) (by kernel_rfl) (fun _ _ _ h => h) (Or.inl ⟨by rfl, ?_⟩) (by assumption) ?_
    rotate_left 1
    · (intro w hSw; (try dsimp only at hSw); go_simp <;> (try with_reducible rfl))
    try simp only [Act.put, List.setIfInBounds_toArray, List.set_cons_zero, List.set_cons_succ]
    refine wpAnyH_take (i := 8) (v := ?_) rfl (by kernel_rfl) (by kernel_rfl) (by kernel_rfl) (fun _ _ _ h => h) (Or.inl ⟨by rfl, ?_⟩) (by assumption) ?_
    rotate_left 1
    · (intro w hSw; (try dsimp only at hSw); go_simp <;> (try with_reducible rfl))
    try simp only [Act.put, List.setIfInBounds_toArray, List.set_cons_zero, List.set_cons_succ]
    refine wpAnyH_ready (rs := [9]) (by kernel_rfl) (by simp) ?_
    refine AllReadyH.cons rfl (fun K hK => ?_) AllReadyH.nil
    go_simp
    refine (HCL.out W.drew ⟨rfl, rfl, rfl, Nat.le_refl _, fun _ _ => rfl⟩).mono ?_
    rintro e w2 ⟨A', c', rfl, hc1, hc2, hs2, hb2⟩
    have HS2 := Lib.hid hs2
    have HB2 := Lib.hid hb2
    clear hs2 hb2
    obtain ⟨l0, l1, l2, l3, lf⟩ := HL.out w2 (fun b hb => HB2.out.block b (HLT.out b hb).1)
    unfold sinkV at l1
    have HX2 := Lib.hid (And.intro l0 (And.intro l1 l2))
    go_wp2_with fail
    refine hK.out _ _ HX2.out (fun hHeld => ?_)
    clear hK K
    try simp only [Act.put, List.setIfInBounds_toArray, List.set_cons_zero, List.set_cons_succ]
    refine wpAnyH_ready (rs := [10]) (by kernel_rfl) (by simp) ?_
    refine AllReadyH.cons rfl (fun K hK => ?_) AllReadyH.nil
    go_simp
    refine (HSK.out w2 A' c' HB2.out HS2.out).mono ?_
    rintro e w3 hdc
    obtain rfl : e = .returned (.int .i64 q) := hdc.1.trans (by rw [HQ.out])
    have HDC := Lib.hid hdc
    clear hdc
    obtain ⟨m0, m1, m2, m3, mf⟩ := HL.out w3 (fun b hb => (HDC.out.2.2.block b (Nat.lt_of_lt_of_le (HLT.out b hb).1 HB2.out.size) (HLT.out b hb).2).trans (HB2.out.block b (HLT.out b hb).1))
    unfold sinkV at m1
    have HX3 := Lib.hid (And.intro m0 (And.intro m1 m2))
    go_wp2_with fail
    refine hK.out _ _ HX3.out (fun hHeld => ?_)
    clear hK K
    try simp only [Act.put, List.setIfInBounds_toArray, List.set_cons_zero, List.set_cons_succ]
    refine wpAnyH_take (i := 11) (v := ?_) rfl (by kernel_rfl) (by kernel_rfl) (by kernel_rfl) (fun _ _ _ h => h) (Or.inl ⟨by rfl, ?_⟩) (by assumption) ?_
    rotate_left 1
    · (intro w hSw; (try dsimp only at hSw); go_simp <;> (try with_reducible rfl))
    try simp only [Act.put, List.setIfInBounds_toArray, List.set_cons_zero, List.set_cons_succ]
    refine wpAnyH_take (i := 12) (v := ?_) rfl (by kernel_rfl) (by kernel_rfl) (by kernel_rfl) (fun _ _ _ h => h) (Or.inl ⟨by rfl, ?_⟩) (by assumption) ?_
    rotate_left 1
    · (intro w hSw; (try dsimp only at hSw); go_simp <;> (try with_reducible rfl))
    try simp only [Act.put, List.setIfInBounds_toArray, List.set_cons_zero, List.set_cons_succ]
    refine wpAnyH_ready (rs := [13]) (by kernel_rfl) (by simp) ?_
    refine AllReadyH.cons rfl (fun K hK => ?_) AllReadyH.nil
    obtain ⟨⟨F4, h4⟩, b4, b5, o4⟩ := HBX.out w2 w3 HB2.out HDC.out
    have hbo : w.heap.size ≠ o := ne_cells b4 h4.out (by decide)
    have hbo1 : w.heap.size + 1 ≠ o := ne_cells b5 h4.out (by decide)
    have h5 := h4.setErr q
    have hg5 : OutB (w3.setCell ⟨o, 3, none⟩ (.int .i64 q)) F4 X (grow G w (w3.setCell ⟨o, 3, none⟩ (.int .i64 q))) d r.1 t o dB tB ⟨ou.held, q⟩ A c cnt := h5.up (fun b hb => by rcases hb with (hb | hb) | hb; exact .inl hb; exact .inr ⟨hb.1, by simpa [World.setCell] using hb.2⟩; exact absurd hb.2 (by simp [World.setCell]; exact hb.1)) (fun b hb => by simpa [World.setCell] using h4.lt b (by rcases hb with hb | hb; exact .inl hb; exact .inr ⟨hb.1, by simpa [World.setCell] using hb.2⟩))
    have b6 := boxed_far' b4 hbo (i := 3) (u := .int .i64 q)
    have b7 := boxed_far' b5 hbo1 (i := 3) (u := .int .i64 q)
    have o6 : Only G w (w3.setCell ⟨o, 3, none⟩ (.int .i64 q)) := o4.setCell (.inl (H.out.gx _ H.out.Xo)) _
    have HX4 := Lib.hid (And.intro b6.cell (And.intro ((cell_of_row _ o 1 _ _ (0, 0) hg5.out).trans rfl : (w3.setCell ⟨o, 3, none⟩ (.int .i64 q)).cell? ⟨o, 1, none⟩ = some (sinkV dB tB)) (by rw [HM.out]; exact ((cell_of_row _ o 2 _ _ (0, 0) hg5.out).trans rfl : (w3.setCell ⟨o, 3, none⟩ (.int .i64 q)).cell? ⟨o, 2, none⟩ = some (.slice A ou.held.length c)) : (w3.setCell ⟨o, 3, none⟩ (.int .i64 q)).cell? ⟨o, 2, none⟩ = some (.slice A m c))))
    unfold sinkV at HX4
    have HG5 := Lib.hid hg5
    have B6 := Lib.hid b6
    have B7 := Lib.hid b7
    have O6 := Lib.hid o6
    clear h4 b4 b5 o4 h5 hg5 b6 b7 o6
    go_simp
    refine hK.out _ _ HX4.out (fun hHeld => ?_)
    clear hK K
    try simp only [Act.put, List.setIfInBounds_toArray, List.set_cons_zero, List.set_cons_succ]
    refine wpAnyH_done (by kernel_rfl) ?_ _
    refine NoPanic.normal ?_
    go_wp2_with fail
    go_meet
    case rel => exact ⟨F4, HG5, B6, B7, O6⟩
  case rest =>
    obtain ⟨F4, H4, B0, B1, O4⟩ := hcut
    have c0 := B0.out.cell
    have c3 : wc.cell? ⟨o, 3, none⟩ = some (.int .i64 q) := (cell_of_row wc o 3 _ _ (0, 0) H4.out.out).trans rfl
    clear k0 k1 k2 k3 kf HCL HSK HBX HL
    go_wp2_with fail
    refine leaves_cons (f := 71) (args := #[.pointer (some ⟨w.heap.size, 0, none⟩), .pointer (some ⟨w.heap.size + 1, 0, none⟩)]) (by simp) (by simp [go_sem]) ?_
    obtain ⟨g, rfl, hmc2⟩ := own_some H4.out.held hne.out
    refine (handOn_def w.heap.size (w.heap.size + 1) g ou.held.length c (sinkV dB tB) q cnt m .returning B0.out B1.out H4.out.out hmc2).mono ?_
    rintro e u' w5 ⟨rfl, rfl, ⟨cnt', h5⟩, h6⟩
    refine ⟨_, results_tmp rfl _ _ _, ?_⟩
    have hne2 : ∀ b, (Value.slice (some ⟨g, 0, none⟩) ou.held.length c).ownBlock = some b → ¬ b = o := fun b hb e => by
      obtain ⟨cur, hc⟩ := H4.out.held.content hb
      rw [e, H4.out.out] at hc
      injection hc with hc
      injection hc with _ e2
      exact absurd e2 (by decide)
    have h7 := H4.out.turn (ou' := ⟨[], q⟩) h6 h5 (own_zero (H4.out.held.only h6 hne2)) rfl
    have hho : s.handOn t ou = (r.1, ⟨[], q⟩, q) := by unfold Disk.St.handOn; rw [if_neg hne.out, ← HR.out, ← HQ.out]
    rw [hho]
    exact ⟨rfl, ⟨F4, X, _, c, cnt', h7.up (fun b hb => grow_grow O4.out.size h6.size b hb) (grow_lt H.out.lt (Nat.le_trans O4.out.size h6.size))⟩, O4.out.trans h6 fun x hx => by subst hx; exact .inl (H.out.gx _ H.out.Xo)⟩
end
end Go.Proofs.Ytfommpbblpnljaa
namespace Go.Proofs.Ytfommpbblpnljaa
open Go.RowKit Go.ChangeShapes Go.WideShapes Go.Deep

section
variable {w w' : World} {F X G : Blocks} {d : Nat} {s : Disk.St} {t : Disk.Nm} {o dB tB : Nat} {ou : Disk.Ou} {A : Option Addr} {c : Nat} {cnt : Int}
set_option maxRecDepth 100000 in
theorem handOn_none (H : Hid (OutB w F X G d s t o dB tB ou A c cnt)) (hne : Hid (ou.held = [])) :
    Calls Try.prog 65 #[.pointer (some ⟨o, 0, none⟩)] w (OutCall w G d t o dB tB (s.handOn t ou)) := by
  have k2 : w.cell? ⟨o, 2, none⟩ = some (.slice A 0 c) := by
    have := (cell_of_row w o 2 _ _ (0, 0) H.out.out).trans rfl
    rw [this, hne.out]; rfl
  have hol : o < w.heap.size := (H.out.ub o H.out.Xo).1
  have hmc : 0 ≤ c := Nat.zero_le _
  go_enter_defers Try.func65, Try.ntmps65
  go_wp2_with fail
  refine ⟨_, results_tmp rfl _ _ _, ?_⟩
  have hho : s.handOn t ou = (s, ou, 0) := by unfold Disk.St.handOn; rw [if_pos hne.out]
  rw [hho]
  have hb : Below w.heap.size w ((w.alloc (.cells #[.pointer (some ⟨o, 0, none⟩)] 33)).alloc (.cells #[.int .i64 0] 3)) := Below.alloc (Below.alloc (Below.refl _ _) (Nat.le_refl _) _) (by simp) _
  exact ⟨rfl, (H.out.far hb).at_, Only.of_below hb G⟩
theorem handOn_any (H : Hid (OutB w F X G d s t o dB tB ou A c cnt)) (hf : Hid (Disk.Fine s)) {k : Nat} (hk : Hid (Disk.Small k s)) (hkb : k ≤ 1099511627776) (ht : t.length ≤ maxLen) (hlen : ou.held.length ≤ 1099511627776) :
    Calls Try.prog 65 #[.pointer (some ⟨o, 0, none⟩)] w (OutCall w G d t o dB tB (s.handOn t ou)) := by
  by_cases h : ou.held = []
  · exact handOn_none H (Lib.hid h)
  · exact handOn_some H hf hk hkb ht (Lib.hid h) hlen
set_option maxRecDepth 100000 in
theorem flush_any (HS : Hid (OutS w G d s t o dB tB ou)) (hf : Hid (Disk.Fine s)) {k : Nat} (hk : Hid (Disk.Small k s)) (hkb : k ≤ 1099511627776) (ht : t.length ≤ maxLen) (hlen : ou.held.length ≤ 1099511627776) :
    Calls Try.prog 35 #[.pointer (some ⟨o, 0, none⟩)] w (OutCall w G d t o dB tB (s.ouFlush t ou)) := by
  obtain ⟨F, X, A, c, cnt, H⟩ := HS.out
  have HE := Lib.hid (err_any (Lib.hid H))
  have HH := Lib.hid (handOn_any (Lib.hid H) hf hk hkb ht hlen)
  have HO := Lib.hid H
  obtain ⟨er, her⟩ : ∃ er, er = ou.err := ⟨_, rfl⟩
  rw [← her] at HE
  have HER := Lib.hid her
  clear H her
  by_cases h0 : er = 0
  · have hfl : s.ouFlush t ou = s.handOn t ou := by unfold Disk.St.ouFlush; rw [if_neg (by rw [← HER.out, h0]; simp)]
    rw [hfl]
    subst h0
    have HFL := Lib.hid hfl
    clear hfl
    go_enter Try.func35, Try.ntmps35
    go_wp2_with fail
    refine HE.out.mono ?_
    rintro e w1 ⟨rfl, rfl⟩
    go_wp2_with fail
    refine HH.out.mono ?_
    rintro e w2 ⟨rfl, h1, h2⟩
    have H1 := Lib.hid h1
    have H2 := Lib.hid h2
    clear h1 h2
    go_wp2_with fail
    go_ret
    exact ⟨rfl, H1.out, H2.out⟩
  · have hb : (er != 0) = true := bne_iff_ne.2 h0
    have hfl : s.ouFlush t ou = (s, ou, er) := by unfold Disk.St.ouFlush; rw [if_pos (by rw [← HER.out]; exact h0), ← HER.out]
    rw [hfl]
    clear hfl h0
    go_enter Try.func35, Try.ntmps35
    go_wp2_with fail
    refine HE.out.mono ?_
    rintro e w1 ⟨rfl, rfl⟩
    go_wp2_with fail
    go_ret
    exact ⟨rfl, (HO.out.far (Below.refl _ _)).at_, Only.of_below (Below.refl _ _) G⟩
/-- Bytes more are held. -/
theorem OutB.grown (h : OutB w F X G d s t o dB tB ou A c cnt) {w1 : World} {l : List UInt8} {A' : Option Addr} {n' c' : Nat} (hown : Own Rep.byte 5 w1 0 nob (.slice A' n' c') (ou.held ++ l)) (hg : w.grownBy w1 (Value.slice A ou.held.length c).ownBlock)
    (hat : (Value.slice A' n' c').ownBlock = (Value.slice A ou.held.length c).ownBlock ∨ (Value.slice A' n' c').ownBlock = some w.heap.size) :
    OutB (w1.setCell ⟨o, 2, none⟩ (.slice A' n' c')) F (fun b => X b ∨ (w.heap.size ≤ b ∧ b < w1.heap.size)) (grow G w (w1.setCell ⟨o, 2, none⟩ (.slice A' n' c'))) d s t o dB tB ⟨ou.held ++ l, ou.err⟩ A' c' cnt ∧ Only G w (w1.setCell ⟨o, 2, none⟩ (.slice A' n' c')) := by
  have hn' : n' = (ou.held ++ l).length := by
    obtain ⟨A2, n2, c2, he, hn2, -, -⟩ := hown.form
    simp only [Value.slice.injEq] at he
    rw [he.2.1, hn2.out]
  have ho1 : Only X w w1 := Only.of_grown hg X fun b hb => h.Xh b hb.symm
  have ho : Only X w (w1.setCell ⟨o, 2, none⟩ (.slice A' n' c')) := ho1.setCell (.inl h.Xo) _
  have hob : (Value.slice A ou.held.length c).ownBlock ≠ some o := fun e => by
    obtain ⟨cur, hc⟩ := h.held.content e
    rw [h.out] at hc
    injection hc with hc
    injection hc with _ e2
    exact absurd e2 (by decide)
  have hout1 : w1.heap[o]? = w.heap[o]? := hg.block o (h.ub o h.Xo).1 fun e => hob e.symm
  have hsz : (w1.setCell ⟨o, 2, none⟩ (.slice A' n' c')).heap.size = w1.heap.size := by simp [World.setCell]
  have hbx : ∀ b ty v, Boxed w b ty v → ty ≠ 106 → ty ≠ 5 → Boxed (w1.setCell ⟨o, 2, none⟩ (.slice A' n' c')) b ty v := fun b ty v hv h1 h2 => by
    refine boxed_far' ((hg.block b hv.lt fun e => ?_).trans hv) (ne_cells hv h.out h1)
    obtain ⟨cur, hc⟩ := h.held.content e.symm
    exact ne_cells hv hc h2 rfl
  obtain ⟨loc, blk, bn, bo, rowv, pA, pC, hB⟩ := h.disk
  refine ⟨{ disk := (hB.only ho fun b hb hx => (h.ub b hx).2 hb).at_, out := ?_, held := ?_, bd := hbx _ _ _ h.bd (by decide) (by decide), bt := hbx _ _ _ h.bt (by decide) (by decide), Xo := .inl h.Xo, Xd := .inl h.Xd, Xt := .inl h.Xt, Xh := fun b hb => ?_,
            ub := fun b hb => ?_, gf := fun b hb => .inl (h.gf b hb), gx := fun b hb => ?_, lt := grow_lt h.lt ho.size }, ho.mono h.gx⟩
  · simp only [World.setCell, Array.getElem?_modify, hout1, h.out, ← hn']
    simp
  · rw [← hn']
    refine hown.only (Only.setCell (Only.refl (fun b => b = o) w1) (.inl rfl) _) fun b hb e => ?_
    subst e
    obtain ⟨cur, hc⟩ := hown.content hb
    rw [hout1, h.out] at hc
    injection hc with hc
    injection hc with _ e2
    exact absurd e2 (by decide)
  · rw [← hn'] at hb
    have hlt := (hown.block_lt hb).2
    rcases hat with e | e
    · exact .inl (h.Xh b (e ▸ hb))
    · rw [e] at hb; cases hb; exact .inr ⟨Nat.le_refl _, hlt⟩
  · rw [hsz]
    rcases hb with hb | hb
    · exact ⟨Nat.lt_of_lt_of_le (h.ub b hb).1 hg.size, (h.ub b hb).2⟩
    · exact ⟨hb.2, fun hf => by have := h.lt b (h.gf b hf); omega⟩
  · rcases hb with hb | hb
    · exact .inl (h.gx b hb)
    · exact .inr ⟨hb.1, by rw [hsz]; exact hb.2⟩
end
end Go.Proofs.Ytfommpbblpnljaa
namespace Go.Proofs.Ytfommpbblpnljaa
open Go.RowKit Go.ChangeShapes Go.WideShapes Go.Deep

theorem row_at {w : World} {S : Blocks} {A : Option Addr} {c : Nat} {l : List (List UInt8)} (h : SliceAt Rep.byte.slice w S A c l) {i : Nat} (hi : i < l.length) :
    ∃ g o A' c', A = some ⟨g, o, none⟩ ∧ S g ∧ w.cell? ⟨g, o + i, none⟩ = some (.slice A' l[i].length c') ∧ SliceAt Rep.byte w S A' c' l[i] := by
  obtain ⟨g, o, cs, e, hb, hc, A', c', rfl, hs⟩ := h.at_ hi
  have := hc.one
  rw [show Rep.byte.slice.n = 1 from rfl, Nat.mul_one] at this
  exact ⟨g, o, A', c', e, hb, this, hs⟩
theorem flat_len (l : List (List UInt8)) (i : Nat) : (l.take i).flatten.length ≤ l.flatten.length := by
  conv => rhs; rw [← List.take_append_drop i l, List.flatten_append, List.length_append]
  omega
theorem flat_next (l : List (List UInt8)) (i : Nat) (hi : i < l.length) : (l.take (i + 1)).flatten = (l.take i).flatten ++ l[i] := by
  rw [List.take_add_one, List.getElem?_eq_getElem hi, List.flatten_append]; simp
section
variable {w w' : World} {F X G : Blocks} {d : Nat} {s : Disk.St} {t : Disk.Nm} {o dB tB : Nat} {ou : Disk.Ou} {A : Option Addr} {c : Nat} {cnt : Int}
theorem OutB.stay (h : OutB w F X G d s t o dB tB ou A c cnt) {w1 : World} (hg : w.grownBy w1 (Value.slice A ou.held.length c).ownBlock) : w1.heap[o]? = w.heap[o]? :=
  hg.block o (h.ub o h.Xo).1 fun e => by
    obtain ⟨cur, hc⟩ := h.held.content e.symm
    rw [h.out] at hc
    injection hc with hc
    injection hc with _ e2
    exact absurd e2 (by decide)
/-- What the loop of Write keeps. -/
def WrLoop (w : World) (F G : Blocks) (d : Nat) (s : Disk.St) (t : Disk.Nm) (o dB tB : Nat) (held : List UInt8) (wr : World) : Prop :=
  ∃ X A c cnt, OutB wr F X (grow G w wr) d s t o dB tB ⟨held, 0⟩ A c cnt ∧ Only G w wr
set_option maxRecDepth 100000 in
set_option maxHeartbeats 1000000 in
theorem write_any (HS : Hid (OutS w G d s t o dB tB ou)) (hf : Hid (Disk.Fine s)) {k : Nat} (hk : Hid (Disk.Small k s)) (hkb : k ≤ 1099511627776) (ht : t.length ≤ maxLen) (B : Option Addr) (n bc : Nat) (ps : List (List UInt8)) (S : Blocks)
    (hn : Hid (n = ps.length)) (hl : Hid (SliceAt Rep.byte.slice w S B bc ps)) (hS : Hid (∀ b, S b → b < w.heap.size ∧ ¬ G b)) (hlen : ou.held.length + ps.flatten.length ≤ 1099511627776) :
    Calls Try.prog 42 #[.pointer (some ⟨o, 0, none⟩), .slice B n bc] w (OutCall w G d t o dB tB (s.ouWrite t ou ps.flatten)) := by
  obtain ⟨F, X, A, c, cnt, H⟩ := HS.out
  have HE := Lib.hid (err_any (Lib.hid H))
  have HO := Lib.hid H
  obtain ⟨er, her⟩ : ∃ er, er = ou.err := ⟨_, rfl⟩
  rw [← her] at HE
  have HER := Lib.hid her
  have HGL := Lib.hid H.lt
  clear H her
  have hnc : n ≤ bc := by rw [hn.out]; exact hl.out.len
  have hcm := hl.out.max
  by_cases h0 : er = 0
  · subst h0
    have HB0 : Hid (OutB w F X G d s t o dB tB ⟨ou.held, 0⟩ A c cnt) := Lib.hid (by have h1 := HO.out; rw [show ou = ⟨ou.held, 0⟩ by rw [HER.out]] at h1; exact h1)
    have HW : Hid (s.ouWrite t ou ps.flatten = if (ou.held ++ ps.flatten).length < 64 then (s, ⟨ou.held ++ ps.flatten, 0⟩, 0) else s.handOn t ⟨ou.held ++ ps.flatten, 0⟩) := Lib.hid (by unfold Disk.St.ouWrite; rw [if_neg (by rw [← HER.out]; simp), ← HER.out])
    have hne : ((n : Int) != (n : Int)) = false := by simp
    go_enter Try.func42, Try.ntmps42
    go_wp2_with fail
    refine HE.out.mono ?_
    rintro e w1 ⟨rfl, rfl⟩
    go_wp2_with fail
    go_loopg [15] n (fun k iv wr => ∃ (i : Nat), i ≤ n ∧ iv = .int .i64 i ∧ k = n - i ∧ Hid (WrLoop w F G d s t o dB tB (ou.held ++ (ps.take i).flatten) wr))
    case atStart => exact ⟨0, Nat.zero_le _, rfl, rfl, Lib.hid ⟨X, A, c, cnt, by simpa using HB0.out.far (Below.refl _ _), Only.of_below (Below.refl _ _) G⟩⟩
    case round =>
      obtain ⟨i, hi, rfl, rfl, HL⟩ := hrel
      obtain ⟨X1, A1, c1, cnt1, h1, ho1⟩ := HL.out
      rcases Nat.lt_or_ge i n with hlt | hge
      · have hil : i < ps.length := by rw [← hn.out]; exact hlt
        have hX := hl.out.keep (fun _ h => h) (fun b hb => ho1.block b (hS.out b hb).1 (hS.out b hb).2)
        obtain ⟨g, o', A', c', rfl, -, hc1, hs1⟩ := row_at hX hil
        have hi1 : (i : Int) < (n : Int) := by omega
        have hi0 : (0 : Int) ≤ (i : Int) := Int.natCast_nonneg _
        obtain ⟨l, hl1⟩ : ∃ l, l = ps[i] := ⟨_, rfl⟩
        rw [← hl1] at hc1 hs1
        obtain ⟨m, hm⟩ : ∃ m, m = l.length := ⟨_, rfl⟩
        rw [← hm] at hc1
        obtain ⟨held, hh⟩ : ∃ held, held = ou.held ++ (ps.take i).flatten := ⟨_, rfl⟩
        rw [← hh] at h1
        have hb1 : held.length + m ≤ 140737488355328 := by
          have h2 := flat_len ps (i + 1)
          rw [flat_next ps i hil, List.length_append, ← hl1, ← hm] at h2
          rw [hh, List.length_append]; omega
        have H1 := Lib.hid h1
        have HO1 := Lib.hid ho1
        have HS1 := Lib.hid hs1
        have HM := Lib.hid hm
        have k2 : wr.cell? ⟨o, 2, none⟩ = some (.slice A1 held.length c1) := (cell_of_row wr o 2 _ _ (0, 0) h1.out).trans rfl
        have HN : Hid (ou.held ++ (ps.take (i + 1)).flatten = held ++ l) := Lib.hid (by rw [flat_next ps i hil, hh, List.append_assoc, hl1])
        clear h1 ho1 hs1 hm hX hl1 hh hil HE HO HB0 HW HL
        go_wp2_with (at_builtin; refine wpList_append_bytes _ rfl (.tmp 23) (.tmp 24) 32 rfl 0 5 stBytes (.slice A1 held.length c1) held rfl H1.out.held S A' m c' l rfl HS1.out HM.out.symm hb1 (Nat.zero_le _) ?_; intro v' w2 hown hg hat; obtain ⟨A2, n2, c2, rfl, -, -, -⟩ := hown.form; have HOWN := Lib.hid hown; have HG2 := Lib.hid hg; have HAT := Lib.hid hat; clear hown hg hat; have k5 : w2.cell? ⟨o, 2, none⟩ = some (.slice A1 held.length c1) := (cell_of_row w2 o 2 _ _ (0, 0) ((H1.out.stay HG2.out).trans H1.out.out)).trans rfl; have kf : w2.frozen? ⟨o, 2, none⟩ = false := by simp [World.frozen?, H1.out.stay HG2.out, H1.out.out])
        go_roundg (n - (i + 1))
        · obtain ⟨h3, h4⟩ := H1.out.grown (l := l) HOWN.out HG2.out HAT.out
          have h5 := h3.up (fun b hb => grow_grow HO1.out.size h4.size b hb) (grow_lt HGL.out (Nat.le_trans HO1.out.size h4.size))
          refine ⟨i + 1, by omega, by go_num, rfl, Lib.hid ?_⟩
          rw [HN.out]
          exact ⟨_, _, _, _, h5, HO1.out.trans h4 fun x hx => hx.imp id (·.1)⟩
        · omega
      · obtain rfl : i = n := by omega
        have hfl : ps.take i = ps := by rw [hn.out]; exact List.take_length
        rw [hfl] at h1
        obtain ⟨held, hh⟩ : ∃ held, held = ou.held ++ ps.flatten := ⟨_, rfl⟩
        rw [← hh] at h1 HW
        have hlen2 : held.length ≤ 1099511627776 := by rw [hh, List.length_append]; omega
        have H1 := Lib.hid h1
        have HO1 := Lib.hid ho1
        have hbd : Below wr.heap.size wr wr.drew := (Below.refl _ _).drew
        have h2 := h1.far hbd
        have h3 := h2.up (G' := grow G w wr.drew) (fun b hb => grow_grow ho1.size hbd.size b hb) (grow_lt HGL.out (Nat.le_trans ho1.size hbd.size))
        have ho2 : Only G w wr.drew := ho1.trans (Only.of_below hbd G) fun x hx => .inl hx
        have H2 := Lib.hid h3
        have HO2 := Lib.hid ho2
        have HH := Lib.hid (handOn_any H2 hf hk hkb ht hlen2)
        have k0 : wr.cell? ⟨o, 0, none⟩ = some (.int .i64 64) := (cell_of_row wr o 0 _ _ (0, 0) h1.out).trans rfl
        have k2 : wr.cell? ⟨o, 2, none⟩ = some (.slice A1 held.length c1) := (cell_of_row wr o 2 _ _ (0, 0) h1.out).trans rfl
        clear h1 ho1 HE HO HB0 HL hh h2 h3 ho2 hbd
        rcases Nat.lt_or_ge held.length 64 with hlt | hge
        · have HV := Lib.hid (HW.out.trans (if_pos hlt))
          have hb : ((held.length : Int) < 64) := by omega
          go_upto_region 9 with fail
          go_region
          go_wp2_with fail
          go_ret
          rw [HV.out]
          exact ⟨rfl, H2.out.at_, HO2.out⟩
        · have HV := Lib.hid (HW.out.trans (if_neg (by omega)))
          have hb : ¬ ((held.length : Int) < 64) := by omega
          go_upto_region 9 with fail
          go_region
          go_wp2_with fail
          refine HH.out.mono ?_
          rintro e w2 ⟨rfl, h4, h5⟩
          have H4 := Lib.hid h4
          have H5 := Lib.hid h5
          clear h4 h5
          go_wp2_with fail
          go_ret
          obtain ⟨F4, X4, A4, c4, cnt4, h6⟩ := H4.out
          rw [HV.out]
          exact ⟨rfl, (h6.up (fun b hb => grow_grow HO2.out.size H5.out.size b hb) (grow_lt HGL.out (Nat.le_trans HO2.out.size H5.out.size))).at_, HO2.out.trans H5.out fun x hx => hx.imp id (·.1)⟩
  · have hb : (er != 0) = true := bne_iff_ne.2 h0
    have hfl : s.ouWrite t ou ps.flatten = (s, ou, er) := by unfold Disk.St.ouWrite; rw [if_pos (by rw [← HER.out]; exact h0), ← HER.out]
    rw [hfl]
    clear hfl h0
    go_enter Try.func42, Try.ntmps42
    go_wp2_with fail
    refine HE.out.mono ?_
    rintro e w1 ⟨rfl, rfl⟩
    go_wp2_with fail
    go_ret
    exact ⟨rfl, (HO.out.far (Below.refl _ _)).at_, Only.of_below (Below.refl _ _) G⟩
end
end Go.Proofs.Ytfommpbblpnljaa
