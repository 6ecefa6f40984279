/- The walk of the law SpaceLines (printed by gen/slines.py). Condition: room. -/
import Derived.Test.YtejjmjbkpodolaaLines25
import Derived.Test.YtejjmjbkpodolaaMid
import Derived.Deep.CutRange
namespace Go.Proofs.Ytejjmjbkpodolaa
open Go.RowKit Go.ChangeShapes Go.WideShapes Go.Deep

/-- The rows that are wanted. -/
structure Wt (base gw off cap : Nat) (es : List (Value × List UInt8)) (w : World) : Prop where
  mid : MidV 22 w base gw off cap (es.map Prod.fst)
  own : ∀ x ∈ es, Own Rep.byte 5 w base nob x.1 x.2
section
variable {base gw off cap : Nat} {es : List (Value × List UInt8)} {w w' : World}
theorem Wt.far (h : Wt base gw off cap es w) (hb : Below w.heap.size w w') : Wt base gw off cap es w' := ⟨h.mid.far hb, fun x hx => (h.own x hx).far hb⟩
theorem Wt.only {F : Blocks} (h : Wt base gw off cap es w) (ho : Only F w w') (hF : ¬ F gw) (hF2 : ∀ x ∈ es, ∀ b, x.1.ownBlock = some b → ¬ F b) : Wt base gw off cap es w' := ⟨h.mid.only ho hF, fun x hx => (h.own x hx).only ho (hF2 x hx)⟩
theorem Wt.push (h : Wt base gw off cap es w) {v : Value} {x : List UInt8} {g' off' cap' : Nat} (hv : Own Rep.byte 5 w base nob v x) (hm : MidV 22 w' base g' off' cap' (es.map Prod.fst ++ [v])) (hg : w.grownBy w' (some gw)) : Wt base g' off' cap' (es ++ [(v, x)]) w' := by
  have hk : ∀ {u : Value} {m : List UInt8}, Own Rep.byte 5 w base nob u m → Own Rep.byte 5 w' base nob u m := fun hu => hu.mono hg (none_or fun q hq e => h.mid.ne_own hu (by decide) (by rw [hq, ← e])) fun _ h => h.elim
  refine ⟨by simpa using hm, fun y hy => ?_⟩
  rcases List.mem_append.1 hy with hy | hy
  · exact hk (h.own y hy)
  · rw [List.mem_singleton.1 hy]; exact hk hv
theorem Wt.cut {x : Value × List UInt8} (h : Wt base gw off cap (x :: es) w) : Wt base gw (off + 1) (cap - 1) es w := ⟨by have := h.mid.cut (by simp); simpa using this, fun y hy => h.own y (by simp [hy])⟩
theorem Wt.rows (h : Wt base gw off cap es w) : SliceAt Rep.byte.slice w (under w.heap.size) (some ⟨gw, off, none⟩) cap (es.map Prod.snd) := by
  refine ⟨by have := h.mid.len; simpa using this, h.mid.max, by simp, fun i hi => ?_⟩
  have hi' : i < (es.map Prod.fst).length := by simpa using hi
  have hil : i < es.length := by simpa using hi
  have hc := h.mid.cell hi'
  simp only [List.getElem_map] at hc ⊢
  obtain ⟨A', n', c', e, hn', -, -, hs'⟩ := (h.own _ (List.getElem_mem hil)).read
  refine ⟨gw, off, [es[i].1], rfl, h.mid.lt, fun j u hj => ?_, A', c', by rw [e, ← hn'.out], hs'.up fun b hb => hb.2⟩
  match j, hj with
  | 0, hj =>
    simp only [List.getElem?_cons_zero, Option.some.injEq] at hj
    subst hj
    simpa [Rep.slice] using hc
end
section
variable {g gw : Nat} {w w' : World} {st : St} {U : Blocks} {v : Value}
abbrev GU (g gw : Nat) : Blocks := fun b => b = g ∨ b = gw
theorem Side.blk {K : Nat → Value → Value → Array Value} {T : TypeId} (s : Side K T U w v st) {b : Nat} (hb : ptrB v b) : ∃ C, w.heap[b]? = some (.cells C T) := by
  match st, s with
  | none, s => rw [show v = _ from s] at hb; simp [ptrB] at hb
  | some (m, p, h), s =>
    obtain ⟨g, rfl, hg, S, ⟨_, _, _, _, _, _, hs⟩, -⟩ := s
    rw [hb.is]; exact ⟨_, hs.blk⟩
theorem Side.ne_own (s : SideP U w v st) {α : Type} {r : Rep α} {e : TypeId} {base : Nat} {u : Value} {l : List α} (h : Own r e w base nob u l) (hne : e ≠ 48) : ∀ b, u.ownBlock = some b → ¬ ptrB v b := by
  intro b hb hp
  obtain ⟨C, hC⟩ := s.blk hp
  exact h.ne_block hC hne hb
theorem Side.ne_mid (s : SideP U w v st) {base gw off cap : Nat} {xs : List Value} (h : MidV 22 w base gw off cap xs) : ¬ ptrB v gw := by
  intro hp
  obtain ⟨C, hC⟩ := s.blk hp
  obtain ⟨cur, hg, -⟩ := h.blk
  rw [hg] at hC
  simp only [Option.some.injEq, Obj.cells.injEq] at hC
  exact absurd hC.2.1 (by decide)
theorem Side.appended {g' : Nat} (s : SideP (GU g gw) w (.pointer (some ⟨g, 0, none⟩)) st) (hg : w.grownBy w' (some gw)) (hne : ¬ ptrB (.pointer (some ⟨g, 0, none⟩)) gw) (hat : g' = gw ∨ g' = w.heap.size) : SideP (GU g g') w' (.pointer (some ⟨g, 0, none⟩)) st := by
  have h1 : SideP (fun b => b = g ∨ b = gw ∨ b = w.heap.size) w (.pointer (some ⟨g, 0, none⟩)) st := s.turn (fun b hb => by
    rcases hb with h | h | h
    · exact .inl (.inl h)
    · exact .inl (.inr h)
    · exact .inr (by omega)) fun b hb => .inl hb.is
  have h2 : SideP (fun b => b = g ∨ b = gw ∨ b = w.heap.size) w' (.pointer (some ⟨g, 0, none⟩)) st := h1.only (F := fun b => b = gw) (Only.of_grown hg _ fun b hb => by simpa using hb) fun b hb => ⟨by rw [hb]; exact hne, .inl (.inr (.inl hb))⟩
  exact h2.turn (fun b hb => by
    rcases hb with h | h
    · exact .inl (.inl h)
    · rcases hat with h' | h'
      · exact .inl (.inr (.inl (h.trans h')))
      · exact .inl (.inr (.inr (h.trans h')))) fun b hb => .inl hb.is
end
/-- A round's beginning. -/
structure LSt (w : World) (g m : Nat) (gw off cap n sz : Nat) (es : List (Value × List UInt8)) (wr : World) : Prop where
  wt : Wt w.heap.size gw off cap es wr
  plain : Space.Plain (es.map Prod.snd)
  sp : SideP (GU g gw) wr (.pointer (some ⟨g, 0, none⟩)) (some (m, Space.joinL (es.map Prod.snd), []))
  hsz : sz = (Space.joinL (es.map Prod.snd)).length
  hn : n = es.length
  h1 : 1 ≤ n
  b : Below w.heap.size w wr
section
variable {w : World} {g m gw off cap n sz : Nat} {es : List (Value × List UInt8)} {wr w' : World}
theorem LSt.far (h : LSt w g m gw off cap n sz es wr) (hb : Below wr.heap.size wr w') : LSt w g m gw off cap n sz es w' := ⟨h.wt.far hb, h.plain, h.sp.far hb, h.hsz, h.hn, h.h1, bfar h.b hb⟩
theorem LSt.fits (h : LSt w g m gw off cap n sz es wr) : sz ≤ m ∧ m ≤ 1048576 := by
  obtain ⟨g', e, -, S, hs, -⟩ := h.sp
  have := hs.fits
  exact ⟨by rw [h.hsz]; exact this.1.1, this.2⟩
theorem LSt.caps (h : LSt w g m gw off cap n sz es wr) : n ≤ cap ∧ cap ≤ 9223372036854775807 := by
  have h1 := h.wt.mid.len
  have h2 := h.wt.mid.max
  rw [List.length_map, ← h.hn] at h1
  simp only [maxLen] at h2
  exact ⟨h1, by omega⟩
theorem LSt.ne_nil (h : LSt w g m gw off cap n sz es wr) : es.map Prod.snd ≠ [] := by
  intro e
  have h1 := congrArg List.length e
  have h2 := h.hn
  have h3 := h.h1
  simp at h1
  rw [h1] at h2
  simp at h2
  omega
/-- Only the space has turned. -/
theorem LSt.only (h : LSt w g m gw off cap n sz es wr) (hgl : w.heap.size ≤ g) (ho : Only (ptrB (.pointer (some ⟨g, 0, none⟩))) wr w') : Wt w.heap.size gw off cap es w' ∧ Below w.heap.size w w' :=
  ⟨h.wt.only ho (h.sp.ne_mid h.wt.mid) fun x hx b hb => h.sp.ne_own (h.wt.own x hx) (by decide) b hb, h.b.trans (ho.below h.b.size fun b hb => by rw [hb.is]; exact hgl)⟩
end
theorem LSt.head {w : World} {g m gw off cap n sz : Nat} {es : List (Value × List UInt8)} {wr : World} (h : LSt w g m gw off cap n sz es wr) : ∃ A0 n0 c0 x0 r, es = (.slice A0 n0 c0, x0) :: r ∧ n0 ≤ c0 ∧ c0 ≤ 9223372036854775807 ∧ n0 = x0.length ∧ wr.cell? ⟨gw, off, none⟩ = some (.slice A0 n0 c0) ∧ SliceAt Rep.byte wr (under wr.heap.size) A0 c0 x0 ∧ Space.firstR (Space.joinL (es.map Prod.snd)) = x0 ∧ ((10 : UInt8) ∈ Space.joinL (es.map Prod.snd) ↔ 1 < n) ∧ n = r.length + 1 := by
  have hn := h.hn
  have h1 := h.h1
  have hp := h.plain
  match es, h, hn, hp with
  | [], _, hn, _ => simp at hn; omega
  | (v, x) :: r, h, hn, hp =>
    have ho := h.wt.own (v, x) (by simp)
    obtain ⟨A, n', c, e, hn', k1, k2, hs⟩ := ho.read
    have hc := h.wt.mid.cell (k := 0) (by simp)
    simp only [Nat.add_zero, List.map_cons, List.getElem_cons_zero] at hc e
    subst e
    refine ⟨A, n', c, x, r, rfl, k1, k2, hn'.out, hc, hs.up fun b hb => hb.2, Space.first_joinL hp, ?_, by simpa using hn⟩
    rw [Space.mem_joinL hp, List.length_map, ← hn]
theorem LSt.cell0 {w : World} {g m gw off cap n sz : Nat} {v : Value} {x : List UInt8} {r : List (Value × List UInt8)} {wr : World} (h : LSt w g m gw off cap n sz ((v, x) :: r) wr) : wr.cell? ⟨gw, off, none⟩ = some v := by
  have hc := h.wt.mid.cell (k := 0) (by simp)
  simpa using hc
theorem LSt.row0 {w : World} {g m gw off cap n sz : Nat} {A : Option Addr} {k c : Nat} {x : List UInt8} {r : List (Value × List UInt8)} {wr : World} (h : LSt w g m gw off cap n sz ((.slice A k c, x) :: r) wr) : SliceAt Rep.byte wr (under wr.heap.size) A c x := by
  obtain ⟨A', n', c', e, -, -, -, hs⟩ := (h.wt.own (.slice A k c, x) (by simp)).read
  simp only [Value.slice.injEq] at e
  obtain ⟨rfl, rfl, rfl⟩ := e
  exact hs.up fun b hb => hb.2
theorem cut_yes {m : Nat} {x : Value × List UInt8} {r : List (Value × List UInt8)} (hp : Space.Plain ((x :: r).map Prod.snd)) (hr : r ≠ []) : cutS (some (m, Space.joinL ((x :: r).map Prod.snd), [])) = (true, some (m, Space.joinL (r.map Prod.snd), [])) := by
  have h2 : r.map Prod.snd ≠ [] := by simpa using hr
  have h1 : (10 : UInt8) ∈ Space.joinL ((x :: r).map Prod.snd) := by rw [Space.mem_joinL hp]; have := List.length_pos_iff.2 hr; simp; omega
  have h3 : Space.cutR (Space.joinL ((x :: r).map Prod.snd)) = Space.joinL (r.map Prod.snd) := by rw [List.map_cons]; exact Space.cut_joinL hp h2
  rw [cutS, h3, decide_eq_true h1]
theorem cut_no {m : Nat} {x : Value × List UInt8} (hp : Space.Plain ([x].map Prod.snd)) : cutS (some (m, Space.joinL ([x].map Prod.snd), [])) = (false, some (m, Space.joinL ([x].map Prod.snd), [])) := by
  have h1 : (10 : UInt8) ∉ Space.joinL ([x].map Prod.snd) := by rw [Space.mem_joinL hp]; simp
  rw [cutS, Space.cutR, if_neg h1, decide_eq_false h1]
theorem LSt.after {w : World} {g m gw off cap n sz : Nat} {x : Value × List UInt8} {r : List (Value × List UInt8)} {wr w' : World} (h : LSt w g m gw off cap (n + 1) sz (x :: r) wr) (hr : r ≠ []) (hgl : w.heap.size ≤ g) (ho : Only (ptrB (.pointer (some ⟨g, 0, none⟩))) wr w') (hs : SideP (GU g gw) w' (.pointer (some ⟨g, 0, none⟩)) (some (m, Space.joinL (r.map Prod.snd), []))) :
    LSt w g m gw (off + 1) (cap - 1) n (sz - 1 - x.2.length) r w' ∧ x.2.length + 1 ≤ sz := by
  obtain ⟨h1, h2⟩ := h.only hgl ho
  have hsz := h.hsz
  rw [List.map_cons, Space.joinL_cons (by simpa using hr), List.length_append, List.length_cons] at hsz
  have hn := h.hn
  simp at hn
  refine ⟨⟨h1.cut, fun y hy => h.plain y (by simp only [List.map_cons, List.mem_cons]; exact .inr hy), hs, ?_, hn, ?_, h2⟩, by omega⟩
  · omega
  · have := List.length_pos_iff.2 hr; omega
theorem join_yes {m : Nat} {p x : List UInt8} (h : p.length + 1 + x.length ≤ m) : liftS (fun m p h => Space.joinR m p h x) (some (m, p, [])) = (0, some (m, p ++ 10 :: x, [])) := by
  simp [liftS, Space.joinR, h]
theorem join_no {m : Nat} {p x : List UInt8} (h : m < p.length + 1 + x.length) : liftS (fun m p h => Space.joinR m p h x) (some (m, p, [])) = (62, some (m, p, [])) := by
  simp [liftS, Space.joinR, Nat.not_le.2 h]
set_option maxRecDepth 100000 in
set_option maxHeartbeats 8000000 in
theorem spaceLines_any (w : World) (most : Int) (A C : Option Addr) (N c K cc : Nat) (rows : List (List UInt8)) (cs : List Bool) (hN : Hid (N = rows.length)) (hl : Hid (SliceAt Rep.byte.slice w (under w.heap.size) A c rows)) (hb : Hid (∀ r ∈ rows, r.length ≤ 140737488355328))
    (hK : Hid (K = cs.length)) (hc : Hid (SliceAt Rep.bool w (under w.heap.size) C cc cs)) :
    Calls Try.prog 6 #[.int .i64 most, .slice A N c, .slice C K cc] w fun e w' => e = .returned (.bool true) ∧ Below w.heap.size w w' := by
  have hNc : N ≤ c := by rw [hN.out]; exact hl.out.len
  have hcm := hl.out.max
  have hKc : K ≤ cc := by rw [hK.out]; exact hc.out.len
  have hccm := hc.out.max
  go_enter Try.func6, Try.ntmps6
  go_wp2_with fail
  refine (works25_any w).mono ?_
  rintro e w1 ⟨rfl, hb1⟩
  have HB1 := Lib.hid hb1
  clear hb1
  go_upto_block 0 with fail
  go_cut [8] from 9 (fun v8 wc => ∃ T : Nat, v8 = .int .i64 T ∧ Hid (T ≤ 16777216 → N ≤ 16777216 ∧ ∀ r ∈ rows, r.length ≤ 16777216) ∧ T ≤ 140737622573056 ∧ wc = w1)
  case first =>
    go_wp2_with fail
    go_loopg [8, 9] N (fun k nv iv wr => ∃ i T : Nat, i ≤ N ∧ nv = .int .i64 T ∧ iv = .int .i64 i ∧ k = N - i ∧ wr = w1 ∧ T ≤ 140737622573056 ∧ i ≤ T ∧ Hid (∀ j (hj : j < rows.length), j < i → rows[j].length ≤ T))
    case atStart => exact ⟨0, 0, Nat.zero_le _, rfl, rfl, rfl, rfl, by omega, by omega, Lib.hid fun j hj h => by omega⟩
    case round =>
      obtain ⟨i, T, hi, rfl, rfl, rfl, rfl, hT, hiT, HT⟩ := hrel
      rcases Nat.lt_or_ge i N with hlt | hge
      · rcases Nat.lt_or_ge 16777216 T with hbig | hsm
        · go_wp2_with fail
          go_meet
          case rel => exact ⟨T, rfl, Lib.hid fun h => by omega, hT, rfl⟩
        · have hil : i < rows.length := by rw [← hN.out]; exact hlt
          obtain ⟨g, o, A', c', rfl, hg, c0, hs⟩ := hl.out.rowAt hil
          have c1 := (HB1.out.cell (p := ⟨g, o + i, none⟩) hg).trans c0
          have hbi := hb.out _ (List.getElem_mem hil)
          obtain ⟨n, hn⟩ : ∃ n, n = rows[i].length := ⟨_, rfl⟩
          rw [← hn] at hbi c1
          have HNN := Lib.hid hn
          have hs1 := hs.len
          have hs2 := hs.max
          rw [← hn] at hs1
          clear c0 hs hn
          go_wp2_with fail
          go_roundg (N - (i + 1))
          case measure => omega
          case rel => exact ⟨i + 1, T + 1 + n, by omega, by go_num, by go_num, rfl, rfl, by omega, by omega, Lib.hid fun j hj h => by
            rcases Nat.lt_or_ge j i with h1 | h1
            · have := HT.out j hj h1; omega
            · obtain rfl : j = i := by omega
              have := HNN.out; omega⟩
      · obtain rfl : i = N := by omega
        go_wp2_with fail
        go_meet
        case rel => exact ⟨T, rfl, Lib.hid fun h => ⟨by omega, fun r hr => by
          obtain ⟨j, hj, rfl⟩ := List.getElem_of_mem hr
          have := HT.out j hj (by rw [hN.out]; exact hj)
          omega⟩, hT, rfl⟩
  case rest =>
    obtain ⟨T, rfl, HT, hT, rfl⟩ := hcut
    go_wp2_with fail
    rcases Classical.em (0 ≤ most ∧ most ≤ 1048576) with hmo | hmo
    rotate_left
    · refine (new_no wc most (by omega)).mono ?_
      rintro e w2 ⟨rfl, rfl⟩
      clear hmo
      go_wp2_with fail
      go_ret
      exact ⟨rfl, HB1.out⟩
    obtain ⟨m, rfl⟩ := Int.eq_ofNat_of_zero_le hmo.1
    have hm : m ≤ 1048576 := by omega
    refine (new_ok wc m hm).mono ?_
    rintro e w2 ⟨g, rfl, hg, HX, HB2⟩
    clear hmo
    rcases Nat.lt_or_ge 16777216 T with hbig | hsm
    · go_wp2_with fail
      go_ret
      exact ⟨rfl, bfar HB1.out HB2.out⟩
    obtain ⟨hN24, hrows⟩ := HT.out hsm
    have HROWS := Lib.hid hrows
    have hgw : w.heap.size ≤ g := Nat.le_trans HB1.out.size hg
    have HB3 := Lib.hid (bfar HB1.out HB2.out)
    clear HT hrows
    have hL0 : LSt w g m w2.heap.size 0 1 1 0 [(.slice none 0 0, [])] (w2.alloc (.cells #[.slice none 0 0] 22)) := by
      have hb3 : Below w2.heap.size w2 (w2.alloc (.cells #[.slice none 0 0] 22)) := (Below.refl _ _).alloc (Nat.le_refl _) _
      refine ⟨⟨MidV.new (base := w.heap.size) w2 [.slice none 0 0] HB3.out.size (by simp [maxLen]) (by simp [Value.oneCell']), fun x hx => ?_⟩, fun x hx => ?_, ?_, rfl, rfl, Nat.le_refl _, bfar HB3.out hb3⟩
      · rw [List.mem_singleton.1 hx]; exact Own.nil _ _ _ _
      · simp at hx; rw [hx]; simp
      · exact Side.far (SpX.side HX.out (.inl rfl)) hb3
    have HL0 := Lib.hid hL0
    clear hL0 HX HB2 HB1
    go_wp2_with fail
    go_loopg [12, 13, 14] N (fun k wv sv iv wr => ∃ (i n gw off cap sz : Nat) (es : List (Value × List UInt8)), i ≤ N ∧ wv = .slice (some ⟨gw, off, none⟩) n cap ∧ sv = .int .i64 sz ∧ iv = .int .i64 i ∧ k = N - i ∧ n ≤ i + 1 ∧ Hid (LSt w g m gw off cap n sz es wr))
    case atStart => exact ⟨0, 1, _, 0, 1, 0, _, Nat.zero_le _, rfl, rfl, rfl, rfl, by omega, HL0⟩
    case round =>
      obtain ⟨i, n, gw, off, cap, sz, es, hi, rfl, rfl, rfl, rfl, hni, HL⟩ := hrel
      obtain ⟨hnc, hcap⟩ := HL.out.caps
      obtain ⟨hszm, -⟩ := HL.out.fits
      have hn1 := HL.out.h1
      rcases Nat.lt_or_ge i N with hlt | hge
      rotate_left
      · obtain rfl : i = N := by omega
        go_wp2_with fail
        go_ret
        exact ⟨rfl, HL.out.b⟩
      have hil : i < rows.length := by rw [← hN.out]; exact hlt
      obtain ⟨gr, o, Ar, cr, rfl, hgr, c0, hs⟩ := hl.out.rowAt hil
      have hri := HROWS.out _ (List.getElem_mem hil)
      obtain ⟨row, hrow⟩ : ∃ r, r = rows[i] := ⟨_, rfl⟩
      rw [← hrow] at c0 hs hri
      obtain ⟨nr, hnr⟩ : ∃ n, n = row.length := ⟨_, rfl⟩
      rw [← hnr] at c0 hri
      have HNR := Lib.hid hnr
      have HROW : Hid (∀ W, Below w.heap.size w W → W.cell? ⟨gr, o + i, none⟩ = some (.slice Ar nr cr) ∧ SliceAt Rep.byte W (under w.heap.size) Ar cr row) := Lib.hid fun W hW => ⟨(hW.cell (p := ⟨gr, o + i, none⟩) hgr).trans c0, hs.keep (fun _ h => h) (Same.of_below hW fun _ h => h)⟩
      clear c0 hs hrow hnr
      obtain ⟨c0, hs0⟩ := HROW.out wr HL.out.b
      have HSR := Lib.hid hs0
      clear hs0
      go_wp2_with fail
      refine (plain_any Ar nr cr row wr _ HNR HSR (Lib.hid fun b hb => Nat.lt_of_lt_of_le hb HL.out.b.size) hri).mono ?_
      rintro e w3 ⟨Ax, nx, cx, rfl, kx1, kx2, HNX, HOX, HBX⟩
      have HL3 := Lib.hid (HL.out.far HBX.out)
      have HOX3 := Lib.hid (HOX.out.low HL.out.b.size)
      have hnx : nx ≤ 16777216 := by have h1 := HNX.out; have h2 := Space.plainR_len row; have h3 := HNR.out; omega
      obtain ⟨x, hx⟩ : ∃ x, x = Space.plainR row := ⟨_, rfl⟩
      have HXP : Hid ((10 : UInt8) ∉ x) := Lib.hid (by rw [hx]; exact Space.plainR_no row)
      rw [← hx] at HNX HOX3
      have hU3 : Hid (∀ b, GU g gw b → b < w3.heap.size) := Lib.hid fun b hb => by
        rcases hb with hb | hb
        · obtain ⟨C, hC⟩ := HL3.out.sp.blk (b := g) rfl
          rw [hb]; exact (Array.getElem?_eq_some_iff.1 hC).1
        · rw [hb]; exact HL3.out.wt.mid.lt
      clear HL HOX HBX HSR c0 hx
      go_wp2_with fail
      have HJ := Lib.hid (sjoin (GU g gw) _ _ w3 Ax nx cx x _ (Lib.hid HL3.out.sp) hU3 (Lib.hid HOX3.out.above.2) (Lib.hid fun b hb => hb.2) HNX (by omega))
      refine HJ.out.mono ?_
      clear HJ hU3
      rintro e w4 ⟨q, rfl, HQ, HS4, HO4⟩
      obtain ⟨hw4, hb4⟩ := HL3.out.only hgw HO4.out
      have HW4 := Lib.hid hw4
      have HB4 := Lib.hid hb4
      have HOX4 := Lib.hid (HOX3.out.only HO4.out (HL3.out.sp.ne_own HOX3.out (by decide)))
      clear hw4 hb4
      rcases Nat.lt_or_ge m (sz + 1 + nx) with hno | hyes
      · have hR := join_no (m := m) (p := Space.joinL (es.map Prod.snd)) (x := x) (by have h1 := HL3.out.hsz; have h2 := HNX.out; omega)
        rw [hR] at HQ HS4
        obtain rfl : q = 62 := HQ.out
        have HL4 : Hid (LSt w g m gw off cap n sz es w4) := Lib.hid ⟨HW4.out, HL3.out.plain, HS4.out, HL3.out.hsz, HL3.out.hn, HL3.out.h1, HB4.out⟩
        have hn4 : n ≤ i + 2 := by omega
        clear hR HQ HS4 HW4 HB4 HL3 HOX3 HOX4 HO4 HXP
        go_upto_region 22 with fail
        go_cut [117] from 65 to 173 (fun v wc => (∃ b : Bool, v = .bool b) ∧ wc = w4)
        case first =>
          rcases Nat.lt_or_ge i K with hik | hik
          · have hil2 : i < cs.length := by rw [← hK.out]; exact hik
            obtain ⟨gq, oq, rfl, hgq, cq⟩ := hc.out.bools hil2
            have cq2 := (HL4.out.b.cell (p := ⟨gq, oq + i, none⟩) hgq).trans cq
            obtain ⟨bq, hbq⟩ : ∃ b, b = cs[i] := ⟨_, rfl⟩
            rw [← hbq] at cq2
            clear cq hbq
            go_wp2_with fail
            go_meet
            case rel => exact ⟨⟨_, rfl⟩, rfl⟩
          · go_wp2_with fail
            go_meet
            case rel => exact ⟨⟨_, rfl⟩, rfl⟩
        case rest =>
          obtain ⟨⟨b, rfl⟩, rfl⟩ := hcut
          obtain ⟨w6, rfl⟩ : ∃ W : World, W = wc := ⟨_, rfl⟩
          go_upto_if 117 with fail
          go_cut [12, 13] from 65 to 173 (fun wv sv wd => ∃ (n2 gw2 off2 cap2 sz2 : Nat) (es2 : List (Value × List UInt8)), wv = .slice (some ⟨gw2, off2, none⟩) n2 cap2 ∧ sv = .int .i64 sz2 ∧ n2 ≤ i + 2 ∧ Hid (LSt w g m gw2 off2 cap2 n2 sz2 es2 wd))
          case first =>
            cases b with
            | false =>
              go_wp2_with fail
              go_meet
              case rel => exact ⟨n, _, _, _, sz, _, rfl, by go_num, by omega, HL4⟩
            | true =>
              have hU6 : Hid (∀ b, GU g gw b → b < w6.heap.size) := Lib.hid fun b hb => by
                rcases hb with hb | hb
                · obtain ⟨C, hC⟩ := HL4.out.sp.blk (b := g) rfl
                  rw [hb]; exact (Array.getElem?_eq_some_iff.1 hC).1
                · rw [hb]; exact HL4.out.wt.mid.lt
              have hcut := scut (GU g gw) _ _ w6 (Lib.hid HL4.out.sp) hU6
              obtain ⟨hnc6, hcap6⟩ := HL4.out.caps
              obtain ⟨n6, hn6⟩ : ∃ n6, n6 = n := ⟨_, rfl⟩
              obtain ⟨A0, n0, c0, x0, r, rfl', k1, k2, hn0, hcl, -, -, -, hr⟩ := HL4.out.head
              obtain ⟨es6, he6⟩ : ∃ e, e = es := ⟨_, rfl⟩
              have HL6 := HL4.out
              rw [← he6] at rfl' HL6 hcut
              subst rfl'
              rcases Nat.lt_or_ge 1 n with hn2 | hn2
              · have hrne : r ≠ [] := by intro e; rw [e] at hr; simp at hr; omega
                rw [cut_yes HL6.plain hrne] at hcut
                have HCUT := Lib.hid hcut
                have HL6 := Lib.hid HL6
                have HRN := Lib.hid hrne
                have HR := Lib.hid hr
                have HN0 := Lib.hid hn0
                have hsl := run_slice_from (P := Try.prog) (size := 1) (bytes := 24) (hT := stRows) (A := some ⟨gw, off, none⟩) (n := n) (c := cap) (k := 1) (hk := by omega)
                have hca : cutA (some ⟨gw, off, none⟩) cap 1 1 = some ⟨gw, off + 1, none⟩ := by
                  rw [cutA, if_neg (by omega)]; simp [Addr.add]
                rw [hca] at hsl
                have hsz0 : Hid (n0 + 1 ≤ sz) := Lib.hid (by
                  have h1 := HL6.out.hsz
                  rw [List.map_cons, Space.joinL_cons (by simpa using hrne), List.length_append, List.length_cons] at h1
                  simp only at h1
                  omega)
                have hd1 : decide ((1 : Int) < (n : Int)) = true := decide_eq_true (by omega)
                clear hcut hrne hr hn0 hca he6 hn6
                go_wp2_with fail
                refine HCUT.out.mono ?_
                rintro e w7 ⟨rfl, HS7, HO7⟩
                have hcl7 : w7.cell? ⟨gw, off, none⟩ = some (.slice A0 n0 c0) := by
                  have hw7 := HL6.out.only hgw HO7.out
                  have := hw7.1.mid.cell (k := 0) (by simp)
                  simpa using this
                have hl7 : n0 + 1 ≤ sz := hsz0.out
                clear hcl HCUT hU6
                go_wp2_with fail
                go_meet
                case rel =>
                  obtain ⟨n7, hn7⟩ : ∃ n7, n = n7 + 1 := ⟨n - 1, by omega⟩
                  have h8 := HL6.out
                  rw [hn7] at h8
                  obtain ⟨h9, h10⟩ := h8.after HRN.out hgw HO7.out HS7.out
                  simp only [← HN0.out] at h9
                  refine ⟨n7, _, _, _, sz - 1 - n0, r, ?_, by go_num, by omega, Lib.hid h9⟩
                  first | (rw [show n7 = n - 1 by omega]; done) | (rw [show n7 = n - 1 by omega]; rfl)
              · obtain rfl : r = [] := by cases r with | nil => rfl | cons a b => simp at hr; omega
                rw [cut_no HL6.plain] at hcut
                have HCUT := Lib.hid hcut
                have HL6 := Lib.hid HL6
                have hd1 : decide ((1 : Int) < (n : Int)) = false := decide_eq_false (by omega)
                clear hcut hr hn0 he6 hn6 hn2
                go_wp2_with fail
                refine HCUT.out.mono ?_
                rintro e w7 ⟨rfl, HS7, HO7⟩
                clear HCUT hU6
                go_wp2_with fail
                go_meet
                case rel =>
                  obtain ⟨h7, h8⟩ := HL6.out.only hgw HO7.out
                  exact ⟨n, _, _, _, sz, _, rfl, by go_num, by omega, Lib.hid ⟨h7, HL6.out.plain, HS7.out, HL6.out.hsz, HL6.out.hn, HL6.out.h1, h8⟩⟩
          case rest =>
            obtain ⟨n6, gw6, off6, cap6, sz6, es6, rfl, rfl, hn6, HL6⟩ := hcut
            obtain ⟨w8, rfl⟩ : ∃ W : World, W = wc := ⟨_, rfl⟩
            clear HL4
            obtain ⟨hnc6, hcap6⟩ := HL6.out.caps
            obtain ⟨hsz6, -⟩ := HL6.out.fits
            have hn61 := HL6.out.h1
            obtain ⟨A0, n0, c0, x0, r, rfl, k1, k2, hn0, -, -, hfr, hmem, -⟩ := HL6.out.head
            obtain ⟨t, ht⟩ : ∃ t, t = decide (1 < n6) := ⟨_, rfl⟩
            have hd : decide ((1 : Int) < (n6 : Int)) = t := by rw [ht]; exact decide_eq_decide.2 (by omega)
            have hF := sfirst (GU g gw6) _ _ w8 (Lib.hid HL6.out.sp)
            have HLN : Hid ((Space.lns (Space.joinL (((Value.slice A0 n0 c0, x0) :: r).map Prod.snd))).1 ++ [(Space.lns (Space.joinL (((Value.slice A0 n0 c0, x0) :: r).map Prod.snd))).2] = ((Value.slice A0 n0 c0, x0) :: r).map Prod.snd) := Lib.hid (Space.lns_joinL HL6.out.ne_nil HL6.out.plain)
            obtain ⟨L, hL⟩ : ∃ L, L = ((Value.slice A0 n0 c0, x0) :: r).map Prod.snd := ⟨_, rfl⟩
            obtain ⟨p, hp⟩ : ∃ p, p = Space.joinL (((Value.slice A0 n0 c0, x0) :: r).map Prod.snd) := ⟨_, rfl⟩
            have HPJ : Hid (Calls Try.prog 12 #[.pointer (some ⟨g, 0, none⟩)] w8 (GiveS w8 p)) := by rw [hp]; exact spattern (GU g gw6) _ _ w8 (Lib.hid HL6.out.sp)
            have HPP : Hid (∀ W, Below w8.heap.size w8 W → Calls Try.prog 12 #[.pointer (some ⟨g, 0, none⟩)] W (GiveS W p)) := Lib.hid fun W hW => by rw [hp]; exact spattern (GU g gw6) _ _ W (Lib.hid (HL6.out.far hW).sp)
            have HSZ6 : Hid (sz6 = p.length) := Lib.hid (by rw [hp]; exact HL6.out.hsz)
            rw [← hp, ← hL] at HLN
            rw [← hp] at hfr hmem hF
            simp only [firstS, hasS] at hF
            rw [hfr, show decide ((10 : UInt8) ∈ p) = t by rw [ht]; exact decide_eq_decide.2 hmem] at hF
            have HF := Lib.hid hF
            have HN0 := Lib.hid hn0
            have HNL : Hid (n6 = L.length) := Lib.hid (by rw [hL, List.length_map]; exact HL6.out.hn)
            have HLL := Lib.hid hL
            clear hF hfr hmem ht hn0 hL hp HPJ
            go_wp2_with fail
            refine HF.out.mono ?_
            rintro e w9 ⟨Aa, na, ca, rfl, ka1, ka2, HNa, HOa, HBa⟩
            have HL9 := Lib.hid (HL6.out.far HBa.out)
            clear HF
            go_wp2_with fail
            refine (HPP.out w9 HBa.out).mono ?_
            rintro e w10 ⟨Ap, np, cp, rfl, kp1, kp2, HNp, HOp, HBp⟩
            obtain rfl : np = sz6 := HNp.out.trans HSZ6.out.symm
            have HL10 := Lib.hid (HL9.out.far HBp.out)
            have hcl := HL10.out.cell0
            have HE : Hid (Calls Try.prog 11 #[.slice Aa na ca, .slice A0 n0 c0] w10 fun e w' => e = .returned (.bool true) ∧ Below w10.heap.size w10 w') := Lib.hid (eqB' Aa A0 na n0 ca c0 x0 x0 true w10 _ _ HNa HN0 (Lib.hid (by simp)) (Lib.hid (HOa.out.far HBp.out).above.2) (Lib.hid HL10.out.row0))
            clear HPP
            go_wp2_with fail
            refine HE.out.mono ?_
            rintro e w11 ⟨rfl, hb11⟩
            have HL11 := Lib.hid (HL10.out.far hb11)
            have HLI := Lib.hid (lines_any Ap np cp p w11 _ HSZ6 (Lib.hid (HOp.out.far hb11).above.2) (Lib.hid fun b hb => hb.2) (by omega))
            rw [HLN.out] at HLI
            clear HE hcl hb11
            go_wp2_with fail
            refine HLI.out.mono ?_
            rintro e w12 ⟨A7, n7, c7, rfl, k71, k72, HN7, HS7, HB12⟩
            obtain rfl : n7 = n6 := HN7.out.trans HNL.out.symm
            have HL12 := Lib.hid (HL11.out.far HB12.out)
            have HR12 : Hid (SliceAt Rep.byte.slice w12 (under w12.heap.size) (some ⟨gw6, off6, none⟩) cap6 L) := Lib.hid (by rw [HLL.out]; exact HL12.out.wt.rows)
            clear HLI
            go_wp2_with fail
            refine (eqRows_yes A7 (some ⟨gw6, off6, none⟩) n7 c7 cap6 L w12 _ _ HNL HS7 HR12 (Lib.hid fun b hb => hb) (Lib.hid fun b hb => hb)).mono ?_
            rintro e w13 ⟨rfl, hb13⟩
            have HL13 := Lib.hid (HL12.out.far hb13)
            clear hb13
            go_wp2_with fail
            go_roundg (N - (i + 1))
            case measure => omega
            case rel => exact ⟨i + 1, n7, gw6, off6, cap6, np, _, by omega, rfl, rfl, by go_num, rfl, by omega, HL13⟩
      · have hR := join_yes (m := m) (p := Space.joinL (es.map Prod.snd)) (x := x) (by have h1 := HL3.out.hsz; have h2 := HNX.out; omega)
        rw [hR] at HQ HS4
        obtain rfl : q = 0 := HQ.out
        have HP5 : Hid (Space.Plain ((es ++ [(Value.slice Ax nx cx, x)]).map Prod.snd)) := Lib.hid fun y hy => by
          simp only [List.map_append, List.map_cons, List.map_nil, List.mem_append, List.mem_singleton] at hy
          rcases hy with hy | rfl
          · exact HL3.out.plain y hy
          · exact HXP.out
        have HJ5 : Hid (Space.joinL ((es ++ [(Value.slice Ax nx cx, x)]).map Prod.snd) = Space.joinL (es.map Prod.snd) ++ 10 :: x) := Lib.hid (by rw [List.map_append]; exact Space.joinL_add HL3.out.ne_nil x)
        have HSZ := Lib.hid HL3.out.hsz
        have HNE := Lib.hid HL3.out.hn
        have HG4 : Hid (¬ ptrB (.pointer (some ⟨g, 0, none⟩)) gw) := Lib.hid (HS4.out.ne_mid HW4.out.mid)
        have hsb4 := HB4.out.size
        clear hR HQ HL3 HOX3 HO4 HXP
        go_upto_region 22 with (at_builtin; refine wpList_append_Mid _ rfl (.tmp 99) (.tmp 101) 50 rfl 22 24 stRows w.heap.size gw off cap n (es.map Prod.fst) (by have := HNE.out; simpa using this) (HW4.out.mid.far ((Below.refl _ _).alloc (Nat.le_refl _) _)) rfl ⟨w4.heap.size, 0, none⟩ 1 (.slice Ax nx cx) rfl (cell_of_row _ _ 0 _ _ (0, 0) (heap_alloc_new _ _)) (by simp [Value.oneCell']) (by omega) (by omega) (by simp; omega) ?_; intro gw5 off5 cap5 w5 hmid5 hg5 hat5; have hb0 : Below w4.heap.size w4 (w4.alloc (.cells #[.slice Ax nx cx] 22)) := ((Below.refl _ _).alloc (Nat.le_refl _) _); have HW5 := Lib.hid ((HW4.out.far hb0).push (HOX4.out.far hb0) hmid5 hg5); have HS5 := Lib.hid ((HS4.out.far hb0).appended hg5 HG4.out hat5); have HB5 := Lib.hid (((bfar HB4.out hb0).trans (Only.below (Only.of_grown hg5 (fun b => b = gw) (fun b hb => (by simpa using hb))) (Nat.le_trans hsb4 hb0.size) (fun b hb => (by rw [hb]; exact HW4.out.mid.hb))))); clear hmid5 hg5 hat5 hb0)
        have HL4 : Hid (LSt w g m gw5 off5 cap5 (n + 1) (sz + 1 + nx) (es ++ [(Value.slice Ax nx cx, x)]) w5) := Lib.hid ⟨HW5.out, HP5.out, by rw [HJ5.out]; exact HS5.out, by rw [HJ5.out, List.length_append, List.length_cons]; have h1 := HSZ.out; have h2 := HNX.out; omega, by rw [List.length_append, ← HNE.out]; rfl, by omega, HB5.out⟩
        clear HP5 HJ5 HSZ HNE HG4 HW5 HS5 HB5 HW4 HS4 HB4 HOX4
        go_cut [117] from 65 to 173 (fun v wc => (∃ b : Bool, v = .bool b) ∧ wc = w5)
        case first =>
          rcases Nat.lt_or_ge i K with hik | hik
          · have hil2 : i < cs.length := by rw [← hK.out]; exact hik
            obtain ⟨gq, oq, rfl, hgq, cq⟩ := hc.out.bools hil2
            have cq2 := (HL4.out.b.cell (p := ⟨gq, oq + i, none⟩) hgq).trans cq
            obtain ⟨bq, hbq⟩ : ∃ b, b = cs[i] := ⟨_, rfl⟩
            rw [← hbq] at cq2
            clear cq hbq
            go_wp2_with fail
            go_meet
            case rel => exact ⟨⟨_, rfl⟩, rfl⟩
          · go_wp2_with fail
            go_meet
            case rel => exact ⟨⟨_, rfl⟩, rfl⟩
        case rest =>
          obtain ⟨⟨b, rfl⟩, rfl⟩ := hcut
          obtain ⟨w6, rfl⟩ : ∃ W : World, W = wc := ⟨_, rfl⟩
          go_upto_if 117 with fail
          go_cut [12, 13] from 65 to 173 (fun wv sv wd => ∃ (n2 gw2 off2 cap2 sz2 : Nat) (es2 : List (Value × List UInt8)), wv = .slice (some ⟨gw2, off2, none⟩) n2 cap2 ∧ sv = .int .i64 sz2 ∧ n2 ≤ i + 2 ∧ Hid (LSt w g m gw2 off2 cap2 n2 sz2 es2 wd))
          case first =>
            cases b with
            | false =>
              go_wp2_with fail
              go_meet
              case rel => exact ⟨(n + 1), _, _, _, (sz + 1 + nx), _, rfl, by go_num, by omega, HL4⟩
            | true =>
              have hU6 : Hid (∀ b, GU g gw5 b → b < w6.heap.size) := Lib.hid fun b hb => by
                rcases hb with hb | hb
                · obtain ⟨C, hC⟩ := HL4.out.sp.blk (b := g) rfl
                  rw [hb]; exact (Array.getElem?_eq_some_iff.1 hC).1
                · rw [hb]; exact HL4.out.wt.mid.lt
              have hcut := scut (GU g gw5) _ _ w6 (Lib.hid HL4.out.sp) hU6
              obtain ⟨hnc6, hcap6⟩ := HL4.out.caps
              obtain ⟨n6, hn6⟩ : ∃ n6, n6 = (n + 1) := ⟨_, rfl⟩
              obtain ⟨A0, n0, c0, x0, r, rfl', k1, k2, hn0, hcl, -, -, -, hr⟩ := HL4.out.head
              obtain ⟨es6, he6⟩ : ∃ e, e = (es ++ [(Value.slice Ax nx cx, x)]) := ⟨_, rfl⟩
              have HL6 := HL4.out
              rw [← he6] at rfl' HL6 hcut
              subst rfl'
              rcases Nat.lt_or_ge 1 (n + 1) with hn2 | hn2
              · have hrne : r ≠ [] := by intro e; rw [e] at hr; simp at hr; omega
                rw [cut_yes HL6.plain hrne] at hcut
                have HCUT := Lib.hid hcut
                have HL6 := Lib.hid HL6
                have HRN := Lib.hid hrne
                have HR := Lib.hid hr
                have HN0 := Lib.hid hn0
                have hsl := run_slice_from (P := Try.prog) (size := 1) (bytes := 24) (hT := stRows) (A := some ⟨gw5, off5, none⟩) (n := (n + 1)) (c := cap5) (k := 1) (hk := by omega)
                have hca : cutA (some ⟨gw5, off5, none⟩) cap5 1 1 = some ⟨gw5, off5 + 1, none⟩ := by
                  rw [cutA, if_neg (by omega)]; simp [Addr.add]
                rw [hca] at hsl
                have hsz0 : Hid (n0 + 1 ≤ (sz + 1 + nx)) := Lib.hid (by
                  have h1 := HL6.out.hsz
                  rw [List.map_cons, Space.joinL_cons (by simpa using hrne), List.length_append, List.length_cons] at h1
                  simp only at h1
                  omega)
                have hd1 : decide ((1 : Int) < ((n : Int) + 1)) = true := decide_eq_true (by omega)
                clear hcut hrne hr hn0 hca he6 hn6
                go_wp2_with fail
                refine HCUT.out.mono ?_
                rintro e w7 ⟨rfl, HS7, HO7⟩
                have hcl7 : w7.cell? ⟨gw5, off5, none⟩ = some (.slice A0 n0 c0) := by
                  have hw7 := HL6.out.only hgw HO7.out
                  have := hw7.1.mid.cell (k := 0) (by simp)
                  simpa using this
                have hl7 : n0 + 1 ≤ (sz + 1 + nx) := hsz0.out
                clear hcl HCUT hU6
                go_wp2_with fail
                go_meet
                case rel =>
                  obtain ⟨n7, hn7⟩ : ∃ n7, (n + 1) = n7 + 1 := ⟨(n + 1) - 1, by omega⟩
                  have h8 := HL6.out
                  rw [hn7] at h8
                  obtain ⟨h9, h10⟩ := h8.after HRN.out hgw HO7.out HS7.out
                  simp only [← HN0.out] at h9
                  refine ⟨n7, _, _, _, (sz + 1 + nx) - 1 - n0, r, ?_, by go_num, by omega, Lib.hid h9⟩
                  first | (rw [show n7 = (n + 1) - 1 by omega]; done) | (rw [show n7 = (n + 1) - 1 by omega]; rfl)
              · obtain rfl : r = [] := by cases r with | nil => rfl | cons a b => simp at hr; omega
                rw [cut_no HL6.plain] at hcut
                have HCUT := Lib.hid hcut
                have HL6 := Lib.hid HL6
                have hd1 : decide ((1 : Int) < ((n : Int) + 1)) = false := decide_eq_false (by omega)
                clear hcut hr hn0 he6 hn6 hn2
                go_wp2_with fail
                refine HCUT.out.mono ?_
                rintro e w7 ⟨rfl, HS7, HO7⟩
                clear HCUT hU6
                go_wp2_with fail
                go_meet
                case rel =>
                  obtain ⟨h7, h8⟩ := HL6.out.only hgw HO7.out
                  exact ⟨(n + 1), _, _, _, (sz + 1 + nx), _, rfl, by go_num, by omega, Lib.hid ⟨h7, HL6.out.plain, HS7.out, HL6.out.hsz, HL6.out.hn, HL6.out.h1, h8⟩⟩
          case rest =>
            obtain ⟨n6, gw6, off6, cap6, sz6, es6, rfl, rfl, hn6, HL6⟩ := hcut
            obtain ⟨w8, rfl⟩ : ∃ W : World, W = wc := ⟨_, rfl⟩
            clear HL4
            obtain ⟨hnc6, hcap6⟩ := HL6.out.caps
            obtain ⟨hsz6, -⟩ := HL6.out.fits
            have hn61 := HL6.out.h1
            obtain ⟨A0, n0, c0, x0, r, rfl, k1, k2, hn0, -, -, hfr, hmem, -⟩ := HL6.out.head
            obtain ⟨t, ht⟩ : ∃ t, t = decide (1 < n6) := ⟨_, rfl⟩
            have hd : decide ((1 : Int) < (n6 : Int)) = t := by rw [ht]; exact decide_eq_decide.2 (by omega)
            have hF := sfirst (GU g gw6) _ _ w8 (Lib.hid HL6.out.sp)
            have HLN : Hid ((Space.lns (Space.joinL (((Value.slice A0 n0 c0, x0) :: r).map Prod.snd))).1 ++ [(Space.lns (Space.joinL (((Value.slice A0 n0 c0, x0) :: r).map Prod.snd))).2] = ((Value.slice A0 n0 c0, x0) :: r).map Prod.snd) := Lib.hid (Space.lns_joinL HL6.out.ne_nil HL6.out.plain)
            obtain ⟨L, hL⟩ : ∃ L, L = ((Value.slice A0 n0 c0, x0) :: r).map Prod.snd := ⟨_, rfl⟩
            obtain ⟨p, hp⟩ : ∃ p, p = Space.joinL (((Value.slice A0 n0 c0, x0) :: r).map Prod.snd) := ⟨_, rfl⟩
            have HPJ : Hid (Calls Try.prog 12 #[.pointer (some ⟨g, 0, none⟩)] w8 (GiveS w8 p)) := by rw [hp]; exact spattern (GU g gw6) _ _ w8 (Lib.hid HL6.out.sp)
            have HPP : Hid (∀ W, Below w8.heap.size w8 W → Calls Try.prog 12 #[.pointer (some ⟨g, 0, none⟩)] W (GiveS W p)) := Lib.hid fun W hW => by rw [hp]; exact spattern (GU g gw6) _ _ W (Lib.hid (HL6.out.far hW).sp)
            have HSZ6 : Hid (sz6 = p.length) := Lib.hid (by rw [hp]; exact HL6.out.hsz)
            rw [← hp, ← hL] at HLN
            rw [← hp] at hfr hmem hF
            simp only [firstS, hasS] at hF
            rw [hfr, show decide ((10 : UInt8) ∈ p) = t by rw [ht]; exact decide_eq_decide.2 hmem] at hF
            have HF := Lib.hid hF
            have HN0 := Lib.hid hn0
            have HNL : Hid (n6 = L.length) := Lib.hid (by rw [hL, List.length_map]; exact HL6.out.hn)
            have HLL := Lib.hid hL
            clear hF hfr hmem ht hn0 hL hp HPJ
            go_wp2_with fail
            refine HF.out.mono ?_
            rintro e w9 ⟨Aa, na, ca, rfl, ka1, ka2, HNa, HOa, HBa⟩
            have HL9 := Lib.hid (HL6.out.far HBa.out)
            clear HF
            go_wp2_with fail
            refine (HPP.out w9 HBa.out).mono ?_
            rintro e w10 ⟨Ap, np, cp, rfl, kp1, kp2, HNp, HOp, HBp⟩
            obtain rfl : np = sz6 := HNp.out.trans HSZ6.out.symm
            have HL10 := Lib.hid (HL9.out.far HBp.out)
            have hcl := HL10.out.cell0
            have HE : Hid (Calls Try.prog 11 #[.slice Aa na ca, .slice A0 n0 c0] w10 fun e w' => e = .returned (.bool true) ∧ Below w10.heap.size w10 w') := Lib.hid (eqB' Aa A0 na n0 ca c0 x0 x0 true w10 _ _ HNa HN0 (Lib.hid (by simp)) (Lib.hid (HOa.out.far HBp.out).above.2) (Lib.hid HL10.out.row0))
            clear HPP
            go_wp2_with fail
            refine HE.out.mono ?_
            rintro e w11 ⟨rfl, hb11⟩
            have HL11 := Lib.hid (HL10.out.far hb11)
            have HLI := Lib.hid (lines_any Ap np cp p w11 _ HSZ6 (Lib.hid (HOp.out.far hb11).above.2) (Lib.hid fun b hb => hb.2) (by omega))
            rw [HLN.out] at HLI
            clear HE hcl hb11
            go_wp2_with fail
            refine HLI.out.mono ?_
            rintro e w12 ⟨A7, n7, c7, rfl, k71, k72, HN7, HS7, HB12⟩
            obtain rfl : n7 = n6 := HN7.out.trans HNL.out.symm
            have HL12 := Lib.hid (HL11.out.far HB12.out)
            have HR12 : Hid (SliceAt Rep.byte.slice w12 (under w12.heap.size) (some ⟨gw6, off6, none⟩) cap6 L) := Lib.hid (by rw [HLL.out]; exact HL12.out.wt.rows)
            clear HLI
            go_wp2_with fail
            refine (eqRows_yes A7 (some ⟨gw6, off6, none⟩) n7 c7 cap6 L w12 _ _ HNL HS7 HR12 (Lib.hid fun b hb => hb) (Lib.hid fun b hb => hb)).mono ?_
            rintro e w13 ⟨rfl, hb13⟩
            have HL13 := Lib.hid (HL12.out.far hb13)
            clear hb13
            go_wp2_with fail
            go_roundg (N - (i + 1))
            case measure => omega
            case rel => exact ⟨i + 1, n7, gw6, off6, cap6, np, _, by omega, rfl, rfl, by go_num, rfl, by omega, HL13⟩
end Go.Proofs.Ytejjmjbkpodolaa
