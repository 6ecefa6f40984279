/- Texts that lead to the claim, one behind the other: An output whose sink appends to a file of a disk: what it is in memory; the sink, New, Err. Condition: the counts are below 2^40. -/
import Derived.Test.YtfommpbblpnljaaIM3
import Derived.Test.YtfommpbblpnljaaIM26
import Derived.Test.YtfommpbblpnljaaIM27
import Derived.Test.YtfommpbblpnljaaIM29
import Derived.Test.YtfommpbblpnljaaIM28
import Derived.Test.YtfommpbblpnljaaIM30
import Derived.Defers
import Derived.Deep.RegionHeld3
namespace Go.Proofs.Ytfommpbblpnljaa
open Go.RowKit Go.ChangeShapes Go.WideShapes Go.Deep

def sinkV (dB tB : Nat) : Value := .func (.func 31) #[] #[.pointer (some ⟨dB, 0, none⟩), .pointer (some ⟨tB, 0, none⟩)]
/-- An output, the disk that its sink writes to, the two boxes of the sink; F the disk's blocks, X the output's, all of them in G. -/
structure OutB (w : World) (F X G : Blocks) (d : Nat) (s : Disk.St) (t : Disk.Nm) (o dB tB : Nat) (ou : Disk.Ou) (A : Option Addr) (c : Nat) (cnt : Int) : Prop where
  disk : DiskAt w F d s
  out : w.heap[o]? = some (.cells #[.int .i64 64, sinkV dB tB, .slice A ou.held.length c, .int .i64 ou.err, .int .i64 cnt] 106 (0, 0))
  held : Own Rep.byte 5 w 0 nob (.slice A ou.held.length c) ou.held
  bd : Boxed w dB 22 (.pointer (some ⟨d, 0, none⟩))
  bt : Boxed w tB 9 (.string (ba t))
  Xo : X o
  Xd : X dB
  Xt : X tB
  Xh : ∀ b, (Value.slice A ou.held.length c).ownBlock = some b → X b
  ub : ∀ b, X b → b < w.heap.size ∧ ¬ F b
  gf : ∀ b, F b → G b
  gx : ∀ b, X b → G b
  lt : ∀ b, G b → b < w.heap.size
def OutS (w : World) (G : Blocks) (d : Nat) (s : Disk.St) (t : Disk.Nm) (o dB tB : Nat) (ou : Disk.Ou) : Prop := ∃ F X A c cnt, OutB w F X G d s t o dB tB ou A c cnt
/-- A call of the output, or of the disk. -/
def OutCall (w : World) (G : Blocks) (d : Nat) (t : Disk.Nm) (o dB tB : Nat) (r : Disk.St × Disk.Ou × Int) (e : Ending) (w' : World) : Prop :=
  e = .returned (.int .i64 r.2.2) ∧ OutS w' (grow G w w') d r.1 t o dB tB r.2.1 ∧ Only G w w'
section
variable {w w' : World} {F X G : Blocks} {d : Nat} {s : Disk.St} {t : Disk.Nm} {o dB tB : Nat} {ou : Disk.Ou} {A : Option Addr} {c : Nat} {cnt : Int}
theorem OutB.keep (h : OutB w F X G d s t o dB tB ou A c cnt) {s' : Disk.St} {F' : Blocks} (hd : DiskAt w' F' d s') (hF : ∀ b, F' b → F b ∨ (w.heap.size ≤ b ∧ b < w'.heap.size)) (ho : Only F w w') : OutB w' F' X (grow G w w') d s' t o dB tB ou A c cnt := by
  have hs : ∀ b, X b → w'.heap[b]? = w.heap[b]? := fun b hb => ho.block b (h.ub b hb).1 (h.ub b hb).2
  exact { disk := hd, out := (hs o h.Xo).trans h.out, held := h.held.only ho fun b hb => (h.ub b (h.Xh b hb)).2, bd := (hs _ h.Xd).trans h.bd, bt := (hs _ h.Xt).trans h.bt, Xo := h.Xo, Xd := h.Xd, Xt := h.Xt, Xh := h.Xh,
          ub := fun b hb => ⟨Nat.lt_of_lt_of_le (h.ub b hb).1 ho.size, fun hf => (hF b hf).elim (h.ub b hb).2 fun hf => by have := (h.ub b hb).1; omega⟩,
          gf := fun b hb => (hF b hb).elim (fun hb => .inl (h.gf b hb)) .inr, gx := fun b hb => .inl (h.gx b hb), lt := grow_lt h.lt ho.size }
theorem OutB.call (h : OutB w F X G d s t o dB tB ou A c cnt) {r : Disk.St × Int} {e : Ending} (hc : DiskCall w F d r e w') : e = .returned (.int .i64 r.2) ∧ OutB w' (grow F w w') X (grow G w w') d r.1 t o dB tB ou A c cnt ∧ Only G w w' :=
  ⟨hc.1, h.keep hc.2.1 (fun _ hb => hb) hc.2.2, hc.2.2.mono h.gf⟩
theorem OutB.far (h : OutB w F X G d s t o dB tB ou A c cnt) (hb : Below w.heap.size w w') : OutB w' F X (grow G w w') d s t o dB tB ou A c cnt :=
  h.keep (by obtain ⟨loc, blk, bn, bo, rowv, pA, pC, hB⟩ := h.disk; exact (hB.far hb).at_) (fun _ hb => .inl hb) (Only.of_below hb F)
theorem OutB.up {G' : Blocks} (h : OutB w F X G d s t o dB tB ou A c cnt) (hg : ∀ b, G b → G' b) (hl : ∀ b, G' b → b < w.heap.size) : OutB w F X G' d s t o dB tB ou A c cnt :=
  { h with gf := fun b hb => hg b (h.gf b hb), gx := fun b hb => hg b (h.gx b hb), lt := hl }
theorem OutB.at_ (h : OutB w F X G d s t o dB tB ou A c cnt) : OutS w G d s t o dB tB ou := ⟨F, X, A, c, cnt, h⟩
theorem grow_grow {w0 w1 w2 : World} {G : Blocks} (h1 : w0.heap.size ≤ w1.heap.size) (h2 : w1.heap.size ≤ w2.heap.size) : ∀ b, grow (grow G w0 w1) w1 w2 b → grow G w0 w2 b := by
  rintro b ((hb | hb) | hb)
  · exact .inl hb
  · exact .inr ⟨hb.1, Nat.lt_of_lt_of_le hb.2 h2⟩
  · exact .inr ⟨Nat.le_trans h1 hb.1, hb.2⟩
set_option maxRecDepth 100000 in
/-- The sink. -/
theorem sink_any (H : Hid (OutB w F X G d s t o dB tB ou A c cnt)) (hf : Hid (Disk.Fine s)) {k : Nat} (hk : Hid (Disk.Small k s)) (hkb : k ≤ 1099511627776) (ht : t.length ≤ maxLen) (B : Option Addr) (n bc : Nat) (l : List UInt8) (S : Blocks) (hn : Hid (n = l.length)) (hl : Hid (SliceAt Rep.byte w S B bc l)) (hS : Hid (∀ b, S b → b < w.heap.size ∧ ¬ F b)) (hb : n ≤ 1099511627776) :
    Calls Try.prog 31 #[.slice B n bc, .pointer (some ⟨dB, 0, none⟩), .pointer (some ⟨tB, 0, none⟩)] w (DiskCall w F d (s.append t l)) := by
  have HAP := Lib.hid (append_any (ba t) (by rw [ba_size]; exact ht) B n bc l S hn hl hS (by omega) (Lib.hid H.out.disk) hf hk hkb)
  rw [show (ba t).data.toList = t from rfl] at HAP
  have c0 := H.out.bd.cell
  have c1 := H.out.bt.cell
  have hnc : n ≤ bc := by rw [hn.out]; exact hl.out.len
  have hcm := hl.out.max
  go_enter Try.func31, Try.ntmps31
  go_wp2_with fail
  refine HAP.out.mono ?_
  rintro e w1 ⟨rfl, h1⟩
  have H1 := Lib.hid h1
  clear h1
  go_wp2_with fail
  have q1 : Try.f31.results = #[.tmp 4] := rfl
  refine ⟨rfl, _, results_tmp q1 _ _ _, ⟨rfl, H1.out⟩⟩
set_option maxRecDepth 100000 in
/-- Err. -/
theorem err_any (H : Hid (OutB w F X G d s t o dB tB ou A c cnt)) : Calls Try.prog 57 #[.pointer (some ⟨o, 0, none⟩)] w fun e w' => e = .returned (.int .i64 ou.err) ∧ w = w' := by
  have c1 : w.cell? ⟨o, 1, none⟩ = some (sinkV dB tB) := (cell_of_row w o 1 _ _ (0, 0) H.out.out).trans rfl
  have c3 : w.cell? ⟨o, 3, none⟩ = some (.int .i64 ou.err) := (cell_of_row w o 3 _ _ (0, 0) H.out.out).trans rfl
  unfold sinkV at c1
  have hnf : ∀ W, (binOp .eql 75 (.func (.func 31) #[] #[.pointer (some ⟨dB, 0, none⟩), .pointer (some ⟨tB, 0, none⟩)]) .nilFunc).run Try.prog W = .ok (.bool false) W := fun _ => rfl
  obtain ⟨er, her⟩ : ∃ er, er = ou.err := ⟨_, rfl⟩
  rw [← her] at c3 ⊢
  clear her
  go_enter Try.func57, Try.ntmps57
  go_wp2_with fail
  go_ret
  exact ⟨rfl, rfl⟩
/-- The output's own block turned. -/
theorem OutB.turn (h : OutB w F X G d s t o dB tB ou A c cnt) (ho : Only (fun b => b = o) w w') {ou' : Disk.Ou} {cnt' : Int} (hout : w'.heap[o]? = some (.cells #[.int .i64 64, sinkV dB tB, .slice A ou'.held.length c, .int .i64 ou'.err, .int .i64 cnt'] 106 (0, 0)))
    (hheld : Own Rep.byte 5 w' 0 nob (.slice A ou'.held.length c) ou'.held) (hb : (Value.slice A ou'.held.length c).ownBlock = (Value.slice A ou.held.length c).ownBlock) : OutB w' F X (grow G w w') d s t o dB tB ou' A c cnt' := by
  have hne : ∀ b ty v, Boxed w b ty v → ty ≠ 106 → Boxed w' b ty v := fun b ty v hv hty => (ho.block b hv.lt (ne_cells hv h.out hty)).trans hv
  obtain ⟨loc, blk, bn, bo, rowv, pA, pC, hB⟩ := h.disk
  exact { disk := (hB.only ho fun b hb e => (h.ub o h.Xo).2 (e ▸ hb)).at_, out := hout, held := hheld, bd := hne _ _ _ h.bd (by decide), bt := hne _ _ _ h.bt (by decide), Xo := h.Xo, Xd := h.Xd, Xt := h.Xt, Xh := fun b hb' => h.Xh b (hb ▸ hb'),
          ub := fun b hb => ⟨Nat.lt_of_lt_of_le (h.ub b hb).1 ho.size, (h.ub b hb).2⟩, gf := fun b hb => .inl (h.gf b hb), gx := fun b hb => .inl (h.gx b hb), lt := grow_lt h.lt ho.size }
theorem own_zero {base g n c : Nat} {l : List UInt8} (h : Own Rep.byte 5 w base nob (.slice (some ⟨g, 0, none⟩) n c) l) : Own Rep.byte 5 w base nob (.slice (some ⟨g, 0, none⟩) 0 c) [] := by
  obtain ⟨xs, ⟨hxl, hv⟩, -, -, -⟩ := h
  rcases hv with ⟨hv, -⟩ | ⟨g', cap, cur, hv, hb, hg, hle, hmax, hsz, -⟩
  · cases hv
  · simp only [Value.slice.injEq, Option.some.injEq, Addr.mk.injEq] at hv
    obtain ⟨⟨rfl, -⟩, -, rfl⟩ := hv
    exact ⟨[], ⟨by simp, .inr ⟨g, c, cur, rfl, hb, hg, Nat.zero_le _, hmax, hsz, by simp⟩⟩, fun _ h => h.elim, by simp, fun i hi => absurd hi (by simp)⟩
theorem own_some {base n c : Nat} {A : Option Addr} {l : List UInt8} (h : Own Rep.byte 5 w base nob (.slice A n c) l) (h0 : l ≠ []) : ∃ g, A = some ⟨g, 0, none⟩ ∧ n ≤ c := by
  obtain ⟨xs, ⟨hxl, hv⟩, -, -, -⟩ := h
  rcases hv with ⟨hv, hz⟩ | ⟨g', cap, cur, hv, hb, hg, hle, hmax, hsz, -⟩
  · exact absurd (List.eq_nil_of_length_eq_zero hz) h0
  · simp only [Value.slice.injEq] at hv
    obtain ⟨rfl, rfl, rfl⟩ := hv
    exact ⟨g', rfl, hle⟩
theorem OutB.setErr (h : OutB w F X G d s t o dB tB ou A c cnt) (q : Int) : OutB (w.setCell ⟨o, 3, none⟩ (.int .i64 q)) F X (grow G w (w.setCell ⟨o, 3, none⟩ (.int .i64 q))) d s t o dB tB ⟨ou.held, q⟩ A c cnt := by
  have ho : Only (fun b => b = o) w (w.setCell ⟨o, 3, none⟩ (.int .i64 q)) := Only.setCell (Only.refl (fun b => b = o) w) (.inl rfl) _
  refine h.turn ho (by simp [World.setCell, Array.getElem?_modify, h.out]) (h.held.only ho fun b hb e => ?_) rfl
  obtain ⟨cur, hc⟩ := h.held.content hb
  rw [e] at hc
  rw [h.out] at hc
  injection hc with hc
  injection hc with _ e2
  exact absurd e2 (by decide)
end
end Go.Proofs.Ytfommpbblpnljaa
