/- The walks of chapter 25's plain and lines, and of EqRows at rows alike. Condition: room. -/
import Derived.Test.YtejjmjbkpodolaaLines25Plain
import Derived.Test.YtejjmjbkpodolaaDoes25
import Derived.Test.YtejjmjbkpodolaaBagMem
import Derived.Test.YtejjmjbkpodolaaCutB
import Derived.Test.YtejjmjbkpodolaaStepOwn
import Derived.Test.YtejjmjbkpodolaaRowAt
import Derived.Deep.RegionHeld3
namespace Go.Proofs.Ytejjmjbkpodolaa
open Go.RowKit Go.ChangeShapes Go.WideShapes Go.Deep

theorem stRows : SliceType Try.prog 50 22 1 24 := SliceType.mk' (z := .slice none 0 0) Try.underlying50 (by kernel_rfl) rfl (by omega)
set_option maxRecDepth 100000 in
theorem plain_any (A : Option Addr) (n c : Nat) (b : List UInt8) (w : World) (S : Blocks) (hn : Hid (n = b.length)) (hb : Hid (SliceAt Rep.byte w S A c b)) (hS : Hid (∀ x, S x → x < w.heap.size)) (hbig : n ≤ 16777216) :
    Calls Try.prog 21 #[.slice A n c] w (GiveS w (Space.plainR b)) := by
  have hnc : n ≤ c := by rw [hn.out]; exact hb.out.len
  have hcm := hb.out.max
  have HSL : Hid (∀ W, Below w.heap.size w W → SliceAt Rep.byte W S A c b) := Lib.hid fun W hW => hb.out.keep (fun _ h => h) (Same.of_below hW hS.out)
  go_enter Try.func21, Try.ntmps21
  go_wp2_with fail
  go_loopg [3, 4] n (fun k pv iv wr => ∃ (i : Nat), i ≤ n ∧ iv = .int .i64 i ∧ k = n - i ∧ Hid (Own Rep.byte 5 wr w.heap.size nob pv (Space.plainR (b.take i))) ∧ Hid (Below w.heap.size w wr))
  case atStart => exact ⟨0, Nat.zero_le _, rfl, rfl, Lib.hid (Own.nil _ _ _ _), Lib.hid (Below.refl _ _)⟩
  case round =>
    obtain ⟨i, hi, rfl, rfl, HO, HB⟩ := hrel
    obtain ⟨A1, n1, c1, rfl, hn1, k1, k2⟩ := HO.out.form
    have hl1 : Hid (n1 ≤ n) := Lib.hid (by have := hn1.out; have h2 := Space.plainR_len (b.take i); rw [List.length_take] at h2; omega)
    rcases Nat.lt_or_ge i n with hlt | hge
    · have hil : i < b.length := by rw [← hn.out]; exact hlt
      obtain ⟨g, o, rfl, -, hc⟩ := (HSL.out wr HB.out).byte hil
      have HT := Lib.hid (Space.plainR_take hil)
      obtain ⟨x, hx⟩ : ∃ x, x = b[i] := ⟨_, rfl⟩
      have hsz := HB.out.size
      rw [← hx] at hc HT
      clear hx
      rcases Classical.em (x = 10) with rfl | hx
      · have hc' : wr.cell? ⟨g, o + i, none⟩ = some (.int .u8 10) := hc
        clear hc
        go_wp2_with fail
        go_roundg (n - (i + 1))
        case measure => omega
        case rel => exact ⟨i + 1, by omega, by go_num, rfl, by have h := HT.out; simp at h; rw [h]; exact HO, HB⟩
      · have hne : ((x.toNat : Int) != 10) = true := by
          rw [bne_iff_ne]; intro e; exact hx (UInt8.toNat_inj.1 (Int.ofNat_inj.1 e))
        have HNE := Lib.hid hx
        clear hx
        go_wp2_with (at_builtin; refine wpList_append_bytes _ rfl (.tmp 16) (.tmp 21) 22 rfl w.heap.size 5 stBytes _ (Space.plainR (b.take i)) rfl (HO.out.alloc _) (under (wr.heap.size + 1)) _ 1 _ [x] rfl (oneByte wr _ x rfl _ (Nat.lt_succ_self _)) rfl (by have := hn1.out; have := hl1.out; omega) (by simp; omega) ?_; intro v2 w2 hown2 hg2 hat2; have HB2 := Lib.hid (below_own (HB.out.alloc hsz _) (HO.out.alloc _) hg2 (by simp; omega)); have HO2 := Lib.hid hown2; clear hown2 hg2 hat2)
        go_roundg (n - (i + 1))
        case measure => omega
        case rel => exact ⟨i + 1, by omega, by go_num, rfl, by rw [HT.out, if_neg HNE.out]; exact HO2, HB2⟩
    · obtain rfl : i = n := by omega
      have HO2 : Hid (Own Rep.byte 5 wr w.heap.size nob (.slice A1 n1 c1) (Space.plainR b)) := Lib.hid (by
        have := HO.out
        rwa [List.take_of_length_le (by rw [hn.out]; exact Nat.le_refl _)] at this)
      clear HO
      go_wp2_with fail
      go_ret
      exact ⟨A1, n1, c1, rfl, k1, k2, Lib.hid HO2.out.above.1, HO2, HB⟩
/-! ### Lines on their way -/
structure LnS (w wr : World) (v : Value) (es : List (Value × List UInt8)) (vl : Value) (l : List UInt8) : Prop where
  hdr : Own Rep.val 22 wr w.heap.size nob v ((es.map fun x => [x.1]) ++ [[vl]])
  own : ∀ x ∈ es, Own Rep.byte 5 wr w.heap.size nob x.1 x.2
  last : Own Rep.byte 5 wr w.heap.size nob vl l
  ne : ∀ x ∈ es, ∀ q, vl.ownBlock = some q → x.1.ownBlock ≠ some q
  b : Below w.heap.size w wr
section
variable {w wr w' : World} {v vl : Value} {es : List (Value × List UInt8)} {l : List UInt8}
theorem LnS.far (h : LnS w wr v es vl l) (hb : Below wr.heap.size wr w') : LnS w w' v es vl l :=
  ⟨h.hdr.far hb, fun x hx => (h.own x hx).far hb, h.last.far hb, h.ne, h.b.trans (hb.mono h.b.size)⟩
theorem none_or {a b : Option Nat} (h : ∀ q, a = some q → b ≠ some q) : a = none ∨ a ≠ b := by
  cases a with
  | none => exact .inl rfl
  | some q => exact .inr fun e => h q rfl e.symm
theorem LnS.newline (h : LnS w wr v es vl l) {v' : Value} (hown : Own Rep.val 22 w' w.heap.size nob v' (((es.map fun x => [x.1]) ++ [[vl]]) ++ [[.slice none 0 0]])) (hg : wr.grownBy w' v.ownBlock) : LnS w w' v' (es ++ [(vl, l)]) (.slice none 0 0) [] := by
  have hk : ∀ {u : Value} {m : List UInt8}, Own Rep.byte 5 wr w.heap.size nob u m → Own Rep.byte 5 w' w.heap.size nob u m := fun hu => hu.mono hg (none_or fun q hq => hu.ne_type h.hdr (by decide) hq) fun _ h => h.elim
  refine ⟨by simpa using hown, fun x hx => ?_, Own.nil _ _ _ _, fun x _ q hq => by simp [Value.ownBlock] at hq, below_own h.b h.hdr hg h.b.size⟩
  rcases List.mem_append.1 hx with hx | hx
  · exact hk (h.own x hx)
  · rw [List.mem_singleton.1 hx]; exact hk h.last
/-- Behind the append, ahead of the store. -/
theorem LnS.grown (h : LnS w wr v es vl l) {v3 : Value} {m : List UInt8} (hown : Own Rep.byte 5 w' w.heap.size nob v3 m) (hg : wr.grownBy w' vl.ownBlock) (hat : v3.ownBlock = vl.ownBlock ∨ v3.ownBlock = some wr.heap.size) :
    ∃ gh c, v = .slice (some ⟨gh, 0, none⟩) (es.length + 1) c ∧ w'.cell? ⟨gh, es.length, none⟩ = some vl ∧ w'.frozen? ⟨gh, es.length, none⟩ = false ∧ LnS w (w'.setCell ⟨gh, es.length, none⟩ v3) v es v3 m := by
  have hh := h.hdr.mono hg (none_or fun q hq => h.hdr.ne_type h.last (by decide) hq) fun _ h => h.elim
  have hlen : ((es.map fun x => [x.1]) ++ [[vl]]).length = es.length + 1 := by simp
  obtain ⟨gh, c, u, e1, hb, hlt, hc, hf, hu, -⟩ := hh.cellAt rfl (k := es.length) (by omega)
  rw [hlen] at e1
  subst e1
  have hu2 : u = vl := by
    have hx : ((es.map fun x => [x.1]) ++ [[vl]])[es.length]'(by omega) = [vl] := by
      rw [List.getElem_append_right (by simp)]; simp
    rw [hx] at hu
    obtain ⟨hu, -, -⟩ := hu
    simpa using hu
  subst hu2
  have ho3 : v3.oneCell' = true := by
    obtain ⟨A, n, c, rfl, -⟩ := hown.form
    rfl
  have hk2 : ∀ {u : Value} {m : List UInt8}, Own Rep.byte 5 w' w.heap.size nob u m → Own Rep.byte 5 (w'.setCell ⟨gh, es.length, none⟩ v3) w.heap.size nob u m := fun hu => hu.mono (setCell_grown gh w' es.length v3) (none_or fun q hq e => hu.ne_type hh (by decide) hq e) fun _ h => h.elim
  refine ⟨gh, c, rfl, hc, hf, ?_, fun x hx => hk2 ((h.own x hx).mono hg (none_or fun q hq e => h.ne x hx q e hq) fun _ h => h.elim), hk2 hown, fun x hx q hq e => ?_, ?_⟩
  · have := hh.set1 (i := es.length) (by omega) ho3
    rw [List.set_append_right _ _ (by simp)] at this
    simpa using this
  · rcases hat with h' | h' <;> rw [h'] at hq
    · exact h.ne x hx q hq e
    · have := ((h.own x hx).block_lt e).2
      simp only [Option.some.injEq] at hq; omega
  · have h2 := below_own h.b h.last hg h.b.size
    exact h2.grown (setCell_grown gh w' es.length v3) h2.size fun b hb' => by simp only [Option.some.injEq] at hb'; omega
/-- How such lines read at the end. -/
theorem LnS.rows (h : LnS w wr v es vl l) : ∃ A c, v = .slice A (es.length + 1) c ∧ SliceAt Rep.byte.slice wr (under wr.heap.size) A c (es.map Prod.snd ++ [l]) := by
  obtain ⟨A, n, c, rfl, hn, h1, h2, hs⟩ := h.hdr.read
  have hlen : n = es.length + 1 := by have := hn.out; simpa using this
  subst hlen
  refine ⟨A, c, rfl, by simpa using h1, hs.2.1, hs.2.2.1, fun i hi => ?_⟩
  have hi' : i < ((es.map fun x => [x.1]) ++ [[vl]]).length := by simpa using hi
  obtain ⟨g, o, cs, rfl, hb, hc, hr⟩ := hs.at_ hi'
  obtain ⟨rfl, -, -⟩ := hr
  have hrow : ∀ {u : Value} {m : List UInt8}, Own Rep.byte 5 wr w.heap.size nob u m → Rep.byte.slice.is wr (under wr.heap.size) [u] m := fun hu => by
    obtain ⟨A', n', c', rfl, hn', -, -, hs'⟩ := hu.read
    exact ⟨A', c', by rw [← hn'.out], hs'.up fun b hb => hb.2⟩
  refine ⟨g, o, _, rfl, hb.2, hc, ?_⟩
  rcases Nat.lt_or_ge i es.length with hlt | hge
  · simp only [List.getElem_append_left (show i < (es.map fun x => [x.1]).length by simpa using hlt), List.getElem_append_left (show i < (es.map Prod.snd).length by simpa using hlt), List.getElem_map]
    exact hrow (h.own _ (List.getElem_mem hlt))
  · have he : i = es.length := by simp at hi; omega
    subst he
    rw [List.getElem_append_right (by simp), List.getElem_append_right (by simp)]
    simp only [List.length_map, Nat.sub_self, List.getElem_cons_zero]
    exact hrow h.last
end
theorem LnS.start (w : World) : LnS w (w.alloc (.cells #[.slice none 0 0] 22)) (.slice (some ⟨w.heap.size, 0, none⟩) 1 1) [] (.slice none 0 0) [] := by
  refine ⟨⟨[.slice none 0 0], ⟨rfl, .inr ⟨w.heap.size, 1, _, rfl, Nat.le_refl _, heap_alloc_new _ _, Nat.le_refl _, by simp [maxLen], rfl, rfl⟩⟩, fun _ h => h.elim, by simp [Value.oneCell'], fun i hi => ?_⟩, fun x hx => absurd hx (by simp), Own.nil _ _ _ _, fun x hx => absurd hx (by simp), (Below.refl _ _).alloc (Nat.le_refl _) _⟩
  match i, hi with
  | 0, _ => exact ⟨rfl, rfl, by simp [Value.oneCell']⟩
set_option maxRecDepth 100000 in
set_option maxHeartbeats 1000000 in
theorem lines_any (A : Option Addr) (n c : Nat) (p : List UInt8) (w : World) (S : Blocks) (hn : Hid (n = p.length)) (hb : Hid (SliceAt Rep.byte w S A c p)) (hS : Hid (∀ x, S x → x < w.heap.size)) (hbig : n ≤ 16777216) :
    Calls Try.prog 26 #[.slice A n c] w fun e w' => ∃ A' n' c', e = .returned (.slice A' n' c') ∧ n' ≤ c' ∧ c' ≤ 9223372036854775807 ∧ Hid (n' = ((Space.lns p).1 ++ [(Space.lns p).2]).length) ∧ Hid (SliceAt Rep.byte.slice w' (under w'.heap.size) A' c' ((Space.lns p).1 ++ [(Space.lns p).2])) ∧ Hid (Below w.heap.size w w') := by
  have hnc : n ≤ c := by rw [hn.out]; exact hb.out.len
  have hcm := hb.out.max
  have HSL : Hid (∀ W, Below w.heap.size w W → SliceAt Rep.byte W S A c p) := Lib.hid fun W hW => hb.out.keep (fun _ h => h) (Same.of_below hW hS.out)
  have HS0 := Lib.hid (LnS.start w)
  go_enter Try.func26, Try.ntmps26
  go_wp2_with fail
  go_loopg [3, 4] n (fun k lv iv wr => ∃ (i m cc : Nat) (AA : Option Addr) (es : List (Value × List UInt8)) (vl : Value) (l : List UInt8), i ≤ n ∧ iv = .int .i64 i ∧ k = n - i ∧ lv = .slice AA (m + 1) cc ∧ m ≤ i ∧ Hid (m = es.length) ∧ Hid (LnS w wr (.slice AA (m + 1) cc) es vl l) ∧ Hid (Space.lns (p.take i) = (es.map Prod.snd, l)) ∧ Hid (l.length ≤ i))
  case atStart => exact ⟨0, 0, 1, _, [], _, [], Nat.zero_le _, rfl, rfl, rfl, Nat.le_refl _, Lib.hid rfl, HS0, Lib.hid rfl, Lib.hid (Nat.le_refl _)⟩
  case round =>
    obtain ⟨i, m, cc, AA, es, vl, l, hi, rfl, rfl, rfl, hmi, HM, HS, HL, HLL⟩ := hrel
    have hsz := HS.out.b.size
    have hcc : m + 1 ≤ cc ∧ cc ≤ 9223372036854775807 := by
      obtain ⟨A', n', c', e, hn', h1, h2⟩ := HS.out.hdr.form
      simp only [Value.slice.injEq] at e
      obtain ⟨rfl, rfl, rfl⟩ := e
      exact ⟨h1, h2⟩
    obtain ⟨hcc1, hcc2⟩ := hcc
    rcases Nat.lt_or_ge i n with hlt | hge
    · have hil : i < p.length := by rw [← hn.out]; exact hlt
      obtain ⟨g, o, rfl, -, hc⟩ := (HSL.out wr HS.out.b).byte hil
      have HT := Lib.hid (Space.lns_take hil)
      obtain ⟨x, hx⟩ : ∃ x, x = p[i] := ⟨_, rfl⟩
      rw [← hx] at hc HT
      clear hx
      rcases Classical.em (x = 10) with rfl | hx
      · have hc' : wr.cell? ⟨g, o + i, none⟩ = some (.int .u8 10) := hc
        clear hc
        have HH : Hid (((es.map fun x => [x.1]) ++ [[vl]]).length = m + 1) := Lib.hid (by rw [HM.out]; simp)
        go_wp2_with (at_builtin; refine wpList_append_Own _ rfl (.tmp 17) (.tmp 18) 50 rfl Rep.val w.heap.size 22 24 stRows nob (.slice AA (m + 1) cc) _ rfl (HS.out.hdr.alloc _) _ _ _ [[_]] rfl (SliceAt.newOne Rep.val _ _ _ _ _ ⟨rfl, rfl, by simp [Value.oneCell']⟩ (by simp)) nob (fun _ h => h.elim) (fun _ h => h) (fun _ _ h => h) (by have := HH.out; simp only [List.length_cons, List.length_nil] at this ⊢; omega) (by have := HH.out; simp only [List.length_cons, List.length_nil] at this ⊢; omega) (by simp; omega) ?_; intro v3 w3 hown3 hg3 hat3; have HS3 := Lib.hid ((HS.out.far ((Below.refl _ _).alloc (Nat.le_refl _) _)).newline hown3 hg3); obtain ⟨A3, n3, c3, rfl, hn3, hk1, hk2⟩ := hown3.form; obtain rfl : n3 = m + 1 + 1 := (by have h1 := hn3.out; have h2 := HH.out; rw [List.length_append] at h1; simp only [List.length_cons, List.length_nil] at h1 h2; omega); clear hown3 hg3 hat3 hn3)
        go_roundg (n - (i + 1))
        case measure => omega
        case rel => exact ⟨i + 1, m + 1, c3, A3, _, _, _, by omega, by go_num, rfl, rfl, by omega, Lib.hid (by rw [HM.out]; simp), HS3, Lib.hid (by rw [HT.out, HL.out]; simp [Space.lnStep]), Lib.hid (by simp)⟩
      · have hne : ((x.toNat : Int) == 10) = false := by
          rw [beq_eq_false_iff_ne]; intro e; exact hx (UInt8.toNat_inj.1 (Int.ofNat_inj.1 e))
        have HNE := Lib.hid hx
        clear hx
        obtain ⟨gh, ch, u, e1, hbg, hgl, hch, hfh, hu, -⟩ := HS.out.hdr.cellAt rfl (k := m) (by rw [HM.out]; simp)
        have hu2 : u = vl := by
          have hx : ((es.map fun x => [x.1]) ++ [[vl]])[m]'(by rw [HM.out]; simp) = [vl] := by
            simp only [HM.out]
            rw [List.getElem_append_right (by simp)]; simp
          rw [hx] at hu
          obtain ⟨hu, -, -⟩ := hu
          simpa using hu
        subst hu2
        simp only [Value.slice.injEq] at e1
        obtain ⟨rfl, -, -⟩ := e1
        have hm0 : (0 : Int) ≤ (m : Int) := Int.natCast_nonneg _
        have hm1 : (m : Int) < (m : Int) + 1 := by omega
        have hwm : IntKind.i64.wrap (m : Int) = m := IntWalk.i64_in (m : Int) (by omega)
        have hi1 : (i : Int) < (n : Int) := by omega
        have hi0 : (0 : Int) ≤ (i : Int) := Int.natCast_nonneg _
        have hd : Below wr.heap.size wr (wr.alloc (.cells #[.int .u8 x.toNat] 5)).drew := ((Below.refl _ _).alloc (Nat.le_refl _) _).drew
        have HD := Lib.hid hd
        clear hu hd
        go_wp2_with fail
        go_region_law ((refine step_append_Own rfl (.tmp 29) (.tmp 34) 22 rfl Rep.byte w.heap.size 5 1 stBytes nob u l (by simp [Act.eval]) (HS.out.last.far HD.out) (under (wr.heap.size + 1)) (some ⟨wr.heap.size, 0, none⟩) 1 [x] (by simp [Act.eval]) ((oneByte wr _ x rfl _ (Nat.lt_succ_self _)).drewN 1) nob (fun _ h => h.elim) (fun _ h => h) (fun _ _ h => h) (by have := HLL.out; simp <;> omega) (by have := HLL.out; simp <;> omega) (by have := HD.out.size; omega) ?_; intro v3 w3 hown3 hg3 hat3; obtain ⟨A3, n3, c3, rfl, -, -, -⟩ := hown3.form; have hgr := (HS.out.far HD.out).grown hown3 hg3 hat3; rw [← HM.out] at hgr; obtain ⟨gh', ch', e', hc3, hf3, hs3⟩ := hgr; simp only [Value.slice.injEq, Option.some.injEq, Addr.mk.injEq] at e'; obtain ⟨⟨rfl, -⟩, -, -⟩ := e'; have HS3 := Lib.hid hs3; clear hown3 hg3 hat3 hs3))
        all_goals go_wp2_with fail
        all_goals go_roundg (n - (i + 1))
        all_goals first | omega | exact ⟨i + 1, m, cc, _, es, _, _, by omega, by go_num, rfl, rfl, by omega, HM, HS3, Lib.hid (by rw [HT.out, HL.out, Space.lnStep, if_neg HNE.out]), Lib.hid (by have := HLL.out; simp; omega)⟩
    · obtain rfl : i = n := by omega
      have hr := HS.out.rows
      obtain ⟨A', c', e, hs⟩ := hr
      have HL2 : Hid (Space.lns p = (es.map Prod.snd, l)) := Lib.hid (by
        have := HL.out
        rwa [List.take_of_length_le (by rw [hn.out]; exact Nat.le_refl _)] at this)
      rw [← HM.out] at e
      simp only [Value.slice.injEq, true_and] at e
      obtain ⟨rfl, rfl⟩ := e
      have HSS := Lib.hid hs
      clear hs HL
      go_wp2_with fail
      go_ret
      rw [HL2.out]
      exact ⟨AA, m + 1, cc, rfl, hcc1, hcc2, Lib.hid (by rw [HM.out]; simp), HSS, Lib.hid HS.out.b⟩
/-! ### Rows alike -/
theorem SliceAt.rowAt {w : World} {S : Blocks} {A : Option Addr} {c : Nat} {l : List (List UInt8)} (h : SliceAt Rep.byte.slice w S A c l) {i : Nat} (hi : i < l.length) :
    ∃ g o A' c', A = some ⟨g, o, none⟩ ∧ S g ∧ w.cell? ⟨g, o + i, none⟩ = some (.slice A' l[i].length c') ∧ SliceAt Rep.byte w S A' c' l[i] := by
  obtain ⟨g, o, cs, e, hb, hc, A', c', rfl, hs⟩ := h.at_ hi
  have := hc.one
  rw [show Rep.byte.slice.n = 1 from rfl, Nat.mul_one] at this
  exact ⟨g, o, A', c', e, hb, this, hs⟩
set_option maxRecDepth 100000 in
set_option maxHeartbeats 1000000 in
theorem eqRows_yes (A B : Option Addr) (n c d : Nat) (L : List (List UInt8)) (w : World) (S S' : Blocks) (hn : Hid (n = L.length)) (hx : Hid (SliceAt Rep.byte.slice w S A c L)) (hy : Hid (SliceAt Rep.byte.slice w S' B d L)) (hS : Hid (∀ x, S x → x < w.heap.size)) (hS' : Hid (∀ x, S' x → x < w.heap.size)) :
    Calls Try.prog 25 #[.slice A n c, .slice B n d] w fun e w' => e = .returned (.bool true) ∧ Below w.heap.size w w' := by
  have hnc : n ≤ c := by rw [hn.out]; exact hx.out.len
  have hnd : n ≤ d := by rw [hn.out]; exact hy.out.len
  have hcm := hx.out.max
  have hdm := hy.out.max
  have hne : ((n : Int) != (n : Int)) = false := by simp
  go_enter Try.func25, Try.ntmps25
  go_wp2_with fail
  go_loopg [5] n (fun k iv wr => ∃ (i : Nat), i ≤ n ∧ iv = .int .i64 i ∧ k = n - i ∧ Hid (Below w.heap.size w wr))
  case atStart => exact ⟨0, Nat.zero_le _, rfl, rfl, Lib.hid (Below.refl _ _)⟩
  case round =>
    obtain ⟨i, hi, rfl, rfl, HB⟩ := hrel
    rcases Nat.lt_or_ge i n with hlt | hge
    · have hil : i < L.length := by rw [← hn.out]; exact hlt
      have hX := hx.out.keep (fun _ h => h) (Same.of_below HB.out hS.out)
      have hY := hy.out.keep (fun _ h => h) (Same.of_below HB.out hS'.out)
      obtain ⟨g, o, A', c', rfl, -, hc1, hs1⟩ := hX.rowAt hil
      obtain ⟨g', o', B', d', rfl, -, hc2, hs2⟩ := hY.rowAt hil
      obtain ⟨l, hl⟩ : ∃ l, l = L[i] := ⟨_, rfl⟩
      rw [← hl] at hc1 hs1 hc2 hs2
      obtain ⟨k, hk⟩ : ∃ k, k = l.length := ⟨_, rfl⟩
      rw [← hk] at hc1 hc2
      have HK := Lib.hid hk
      have HS1 : Hid (∀ W, Below wr.heap.size wr W → SliceAt Rep.byte W S A' c' l) := Lib.hid fun W hW => hs1.keep (fun _ h => h) (Same.of_below hW fun x hx' => Nat.lt_of_lt_of_le (hS.out x hx') HB.out.size)
      have HS2 : Hid (∀ W, Below wr.heap.size wr W → SliceAt Rep.byte W S' B' d' l) := Lib.hid fun W hW => hs2.keep (fun _ h => h) (Same.of_below hW fun x hx' => Nat.lt_of_lt_of_le (hS'.out x hx') HB.out.size)
      have HCall : Hid (∀ W, Below wr.heap.size wr W → Calls Try.prog 11 #[.slice A' k c', .slice B' k d'] W fun e w' => e = .returned (.bool true) ∧ Below W.heap.size W w') := Lib.hid fun W hW => eqB' A' B' k k c' d' l l true W S S' HK HK (Lib.hid (by simp)) (Lib.hid (HS1.out W hW)) (Lib.hid (HS2.out W hW))
      have HKK : Hid (∀ wa wb : World, (Below wr.heap.size wr wa ∧ wa.cell? ⟨g, o + i, none⟩ = some (.slice A' k c') ∧ wa.cell? ⟨g', o' + i, none⟩ = some (.slice B' k d')) → Below wa.heap.size wa wb → Below wr.heap.size wr wb ∧ wb.cell? ⟨g, o + i, none⟩ = some (.slice A' k c') ∧ wb.cell? ⟨g', o' + i, none⟩ = some (.slice B' k d')) := Lib.hid fun wa wb ⟨h1, h2, h3⟩ hb => ⟨bfar h1 hb, (hb.cell (World.block_lt_of_cell? wa _ h2)).trans h2, (hb.cell (World.block_lt_of_cell? wa _ h3)).trans h3⟩
      have HK0 : Hid (Below wr.heap.size wr wr.drew ∧ wr.drew.cell? ⟨g, o + i, none⟩ = some (.slice A' k c') ∧ wr.drew.cell? ⟨g', o' + i, none⟩ = some (.slice B' k d')) := Lib.hid ⟨(Below.refl _ _).drew, hc1, hc2⟩
      have hi1 : (i : Int) < (n : Int) := by omega
      have hi0 : (0 : Int) ≤ (i : Int) := Int.natCast_nonneg _
      clear hc1 hc2 hs1 hs2 hX hY hl hk
      go_upto_region 6 with fail
      go_region_held3 (fun wa => Below wr.heap.size wr wa ∧ wa.cell? ⟨g, o + i, none⟩ = some (.slice A' k c') ∧ wa.cell? ⟨g', o' + i, none⟩ = some (.slice B' k d')) (first | exact HK0.out | exact HKK.out _ _ (by assumption) (by assumption)) (first | (go_at_call 11; refine (HCall.out _ (And.left (by assumption))).mono ?_; rintro e w2 ⟨rfl, hb2⟩))
      all_goals go_wp2_with fail
      all_goals go_roundg (n - (i + 1))
      all_goals first | omega | exact ⟨i + 1, by omega, by go_num, rfl, Lib.hid (HB.out.trans (Below.mono (And.left (by assumption)) HB.out.size))⟩
    · obtain rfl : i = n := by omega
      go_wp2_with fail
      go_ret
      exact ⟨rfl, HB.out⟩
end Go.Proofs.Ytejjmjbkpodolaa
