/- The walk of the law WordsNumbers. Condition: room (the law's own bound). -/
import Derived.Test.YtooempbgpfhdcaaWorks19
import Derived.Test.YtooempbgpfhdcaaStBytes
namespace Go.Proofs.Ytooempbgpfhdcaa
open Go.RowKit Go.ChangeShapes Go.WideShapes Go.Deep

set_option maxRecDepth 100000 in
theorem number_neg (w : World) (g n c p : Nat) (A : Option Addr) (l : List UInt8) (most : Int) (h : Hid (Wd w g A n c l p)) (hm : most < 0) :
    Calls Try.prog 15 #[.pointer (some ⟨g, 0, none⟩), .int .i64 most] w fun e w' => e = .returned (.tuple #[.int .i64 0, .int .i64 1]) ∧ Below w.heap.size w w' := by
  have hm1 : decide (most < 0) = true := decide_eq_true hm
  have HWD := Lib.hid (h.out.far ((Below.refl _ w).alloc (Nat.le_refl _) (.cells #[.int .i64 most] 3)))
  go_enter Try.func15, Try.ntmps15
  go_wp2_with fail
  refine (none_no _ g n c p A l HWD).mono ?_
  rintro e w' ⟨rfl, rfl⟩
  go_wp2_with fail
  go_ret2
  exact ⟨rfl, (Below.refl _ _).alloc (Nat.le_refl _) _⟩
/-- A digit. -/
def dg (d : Nat) : UInt8 := UInt8.ofNat (48 + d)
theorem dg_nat {d : Nat} (h : d ≤ 9) : (dg d).toNat = 48 + d := by simp [dg]; omega
theorem dg_isDig {d : Nat} (h : d ≤ 9) : Words.isDig (dg d) = true := by simp [Words.isDig, dg_nat h]; omega
theorem dg_val {d : Nat} (h : d ≤ 9) : ((dg d).toNat : Int) - 48 = d := by rw [dg_nat h]; omega
theorem Own.atS {α : Type} {r : Rep α} {e : TypeId} {w : World} {base : Nat} {A : Option Addr} {n c : Nat} {l : List α} (h : Own r e w base nob (.slice A n c) l) : n = l.length ∧ n ≤ c ∧ c ≤ 9223372036854775807 ∧ SliceAt r w (under w.heap.size) A c l := by
  obtain ⟨A', n', c', e, hn, h1, h2, hs⟩ := h.read
  simp only [Value.slice.injEq] at e
  obtain ⟨rfl, rfl, rfl⟩ := e
  exact ⟨hn.out, h1, h2, hs.up (btw_under (Nat.le_refl _))⟩
theorem byteNew (w : World) (x : Int) (c : UInt8) (hx : x = c.toNat) (B : Nat) (hB : w.heap.size < B) : SliceAt Rep.byte (w.alloc (.cells #[.int .u8 x] 5)) (under B) (some ⟨w.heap.size, 0, none⟩) 1 [c] := by
  subst hx
  exact (SliceAt.newBytes w 5 _ [c] 1 (by simp) (by simp [maxLen]) rfl).up fun b hb => Nat.lt_of_lt_of_le hb hB
theorem len_of {x0 k x : Nat} (h : x0 ≤ 9223372036854775807) (h1 : 10 ^ k * x ≤ x0) (h2 : 1 ≤ x) : k ≤ 18 := by
  rcases Nat.lt_or_ge k 19 with h3 | h3
  · omega
  · have h4 : 10 ^ 19 ≤ 10 ^ k := Nat.pow_le_pow_right (by decide) h3
    have h5 : 10 ^ k * 1 ≤ 10 ^ k * x := Nat.mul_le_mul_left _ h2
    have h6 : (10 : Nat) ^ 19 = 10000000000000000000 := by decide
    omega
theorem pow_step {x0 k x y : Nat} (h : 10 ^ k * x ≤ x0) (hy : 10 * y ≤ x) : 10 ^ (k + 1) * y ≤ x0 := by
  have h1 : 10 ^ (k + 1) * y = 10 ^ k * (10 * y) := by rw [Nat.pow_succ, Nat.mul_assoc]
  have h2 : 10 ^ k * (10 * y) ≤ 10 ^ k * x := Nat.mul_le_mul_left _ hy
  omega
def firstDig : List UInt8 → Bool
  | [] => false
  | z :: _ => Words.isDig z
theorem rev_take (ds : List UInt8) (j : Nat) (hj : j < ds.length) : ds.reverse.take (ds.length - (j + 1)) ++ [ds[j]] = ds.reverse.take (ds.length - j) := by
  have h1 : ds.length - (j + 1) < ds.reverse.length := by rw [List.length_reverse]; omega
  have h2 : ds.length - j = ds.length - (j + 1) + 1 := by omega
  rw [h2, List.take_succ_eq_append_getElem h1, List.getElem_reverse]
  congr 3
  omega
set_option maxRecDepth 100000 in
set_option maxHeartbeats 8000000 in
theorem wordsNumbers_any (N nou most : Int) (l : List UInt8) (A : Option Addr) (n c : Nat) (w : World) (hN : N ≤ 9223372036854775807) (hno : nou ≤ 9223372036854775807) (hmo : most ≤ 9223372036854775807)
    (hn : Hid (n = l.length)) (hl : Hid (SliceAt Rep.byte w (under w.heap.size) A c l)) :
    Calls Try.prog 4 #[.int .i64 N, .int .i64 nou, .int .i64 most, .slice A n c] w fun e' w' => e' = .returned (.bool true) ∧ Below w.heap.size w w' := by
  have hnc := hl.out.len
  have hcm := hl.out.max
  rw [← hn.out] at hnc
  go_enter Try.func4, Try.ntmps4
  go_wp2_with fail
  refine (works19_any w).mono ?_
  rintro e w1 ⟨rfl, hb1⟩
  have HB1 := Lib.hid hb1
  clear hb1
  by_cases hN0 : N < 0
  · have d0 : decide (N < 0) = true := decide_eq_true hN0
    go_wp2_with fail
    go_ret
    exact ⟨rfl, HB1.out⟩
  obtain ⟨x0, rfl⟩ : ∃ x0 : Nat, N = x0 := ⟨N.toNat, by omega⟩
  have d0 : decide ((x0 : Int) < 0) = false := decide_eq_false hN0
  by_cases hnb : 16777216 < n
  · have d1 : decide ((16777216 : Int) < n) = true := decide_eq_true (by omega)
    go_wp2_with fail
    go_ret
    exact ⟨rfl, HB1.out⟩
  have d1 : decide ((16777216 : Int) < n) = false := decide_eq_false (by omega)
  have hnb2 : n ≤ 16777216 := by omega
  have hx0 : x0 ≤ 9223372036854775807 := by omega
  clear hN0 hnb
  go_upto_block 0 with fail
  clear d0 d1
  go_cut [10] from 28 (fun v10 wc => ∃ (k : Nat) (A3 : Option Addr) (n3 c3 : Nat), k ≤ 40 ∧ v10 = .slice A3 n3 c3 ∧ Hid (Own Rep.byte 5 wc w.heap.size nob (.slice A3 n3 c3) (List.replicate k 48)) ∧ Hid (Below w.heap.size w wc))
  case first =>
    go_wp2_with fail
    go_loopg [10, 11] 40 (fun j v10 v11 wr => ∃ (k : Nat) (A3 : Option Addr) (n3 c3 : Nat), k ≤ 40 ∧ j = 40 - k ∧ v11 = .int .i64 k ∧ v10 = .slice A3 n3 c3 ∧ Hid (Own Rep.byte 5 wr w.heap.size nob (.slice A3 n3 c3) (List.replicate k 48)) ∧ Hid (Below w.heap.size w wr))
    case atStart => exact ⟨0, none, 0, 0, by omega, rfl, rfl, rfl, Lib.hid (Own.nil _ _ _ _), HB1⟩
    case round =>
      obtain ⟨k, A3, n3, c3, hk, rfl, rfl, rfl, HO, HB⟩ := hrel
      by_cases h1 : (k : Int) < nou
      · have d1 : decide ((k : Int) < nou) = true := decide_eq_true h1
        by_cases h2 : k < 40
        · have d2 : decide ((k : Int) < 40) = true := decide_eq_true (by omega)
          go_wp2_with (at_builtin; refine wpList_append_Own _ rfl (.tmp 37) (.tmp 38) 22 rfl Rep.byte w.heap.size 5 1 stBytes nob (.slice A3 n3 c3) (List.replicate k 48) rfl (HO.out.alloc _) (under (wr.heap.size + 1)) _ _ [48] rfl (byteNew wr 48 48 rfl _ (Nat.lt_succ_self _)) nob (fun _ h => h.elim) (fun _ h => h) (fun _ _ h => h) (by simp; omega) (by simp; omega) (by have := HB.out.size; simp; omega) ?_; intro v4 w4 hown4 hg4 hat4; obtain ⟨A4, n4, c4, rfl, -, -, -⟩ := hown4.form; have HB4 := Lib.hid (below_own (HB.out.alloc HB.out.size _) (HO.out.alloc _) hg4 (by have := HB.out.size; simp; omega)); have HO4 := Lib.hid hown4; clear hown4 hg4 hat4)
          go_roundg (40 - (k + 1))
          case measure => omega
          case rel => exact ⟨k + 1, A4, n4, c4, by omega, rfl, by go_num, rfl, Lib.hid (by rw [List.replicate_succ']; exact HO4.out), HB4⟩
        · have d2 : decide ((k : Int) < 40) = false := decide_eq_false (by omega)
          go_wp2_with fail
          go_meet
          case rel => exact ⟨k, A3, n3, c3, hk, rfl, HO, HB⟩
      · have d1 : decide ((k : Int) < nou) = false := decide_eq_false h1
        go_wp2_with fail
        go_meet
        case rel => exact ⟨k, A3, n3, c3, hk, rfl, HO, HB⟩
  case rest =>
    obtain ⟨k, A3, n3, c3, hk, rfl, HO, HB⟩ := hcut
    clear HB1
    go_wp2_with fail
    obtain ⟨wo, rfl⟩ : ∃ wo : World, wo = wc := ⟨_, rfl⟩
    go_loopg [12, 13] x0 (fun j v12 v13 wr => ∃ (x : Nat) (ds : List UInt8) (A2 : Option Addr) (n2 c2 : Nat), j = x ∧ v13 = .int .i64 x ∧ v12 = .slice A2 n2 c2 ∧ x ≤ x0 ∧ Hid (Own Rep.byte 5 wr wo.heap.size nob (.slice A2 n2 c2) ds) ∧ Hid (∀ c ∈ ds, Words.isDig c = true) ∧ Hid (Words.val x ds.reverse = x0) ∧ Hid (10 ^ ds.length * x ≤ x0 ∧ (ds = [] ∨ 1 ≤ x)) ∧ Hid (Below wo.heap.size wo wr))
    case atStart => exact ⟨x0, [], none, 0, 0, rfl, rfl, rfl, Nat.le_refl _, Lib.hid (Own.nil _ _ _ _), Lib.hid (by simp), Lib.hid rfl, Lib.hid ⟨by simp, .inl rfl⟩, Lib.hid (Below.refl _ _)⟩
    case round =>
      obtain ⟨x, ds, A2, n2, c2, hj, rfl, rfl, hxx, HD, HDG, HV, HP, HB2⟩ := hrel
      have hj := hj.symm
      subst hj
      have HLEN : Hid (ds.length ≤ 19) := Lib.hid (by
        rcases HP.out.2 with h | h
        · rw [h]; simp
        · have := len_of hx0 HP.out.1 h; omega)
      by_cases hx9 : 9 < x
      · have d1 : decide ((9 : Int) < x) = true := decide_eq_true (by omega)
        obtain ⟨y, hy⟩ : ∃ y, y = x / 10 := ⟨_, rfl⟩
        obtain ⟨d, hd⟩ : ∃ d, d = x % 10 := ⟨_, rfl⟩
        have hq : (x : Int) / 10 = (y : Int) := by omega
        have hr : (x : Int) % 10 = (d : Int) := by omega
        have hd9 : d ≤ 9 := by omega
        have hxy : x = 10 * y + d := by omega
        have HXY := Lib.hid hxy
        have hyx : y < x := by omega
        have hy1 : 1 ≤ y := by omega
        clear hy hd hxy
        go_wp2_with (at_builtin; refine wpList_append_Own _ rfl (.tmp 43) (.tmp 48) 22 rfl Rep.byte wo.heap.size 5 1 stBytes nob (.slice A2 n2 c2) ds rfl (HD.out.alloc _) (under (wr.heap.size + 1)) _ _ [dg d] rfl (byteNew wr _ (dg d) (by rw [dg_nat hd9]; omega) _ (Nat.lt_succ_self _)) nob (fun _ h => h.elim) (fun _ h => h) (fun _ _ h => h) (by have := HLEN.out; simp only [List.length_cons, List.length_nil]; omega) (by have := HLEN.out; simp only [List.length_cons, List.length_nil]; omega) (by have := HB2.out.size; simp; omega) ?_; intro v4 w4 hown4 hg4 hat4; obtain ⟨A4, n4, c4, rfl, -, -, -⟩ := hown4.form; have HB4 := Lib.hid (below_own (HB2.out.alloc HB2.out.size _) (HD.out.alloc _) hg4 (by have := HB2.out.size; simp; omega)); have HO4 := Lib.hid hown4; have HG4 := Lib.hid hg4; have HAT4 := Lib.hid hat4; clear hown4 hg4 hat4)
        go_roundg y
        case measure => exact hyx
        case rel =>
          refine ⟨y, ds ++ [dg d], A4, n4, c4, rfl, rfl, rfl, by omega, HO4, Lib.hid ?_, Lib.hid ?_, Lib.hid ⟨?_, .inr hy1⟩, HB4⟩
          · intro c hc
            rcases List.mem_append.1 hc with h | h
            · exact HDG.out c h
            · obtain rfl : c = dg d := by simpa using h
              exact dg_isDig hd9
          · rw [List.reverse_append, List.reverse_singleton, List.singleton_append, Words.val_snoc, dg_val hd9]
            have := HV.out
            rw [HXY.out] at this
            rw [← this]
            congr 1
          · rw [List.length_append]
            exact pow_step HP.out.1 (by have := HXY.out; omega)
      · have d1 : decide ((9 : Int) < x) = false := decide_eq_false (by omega)
        have hx9' : x ≤ 9 := by omega
        have HO1 := Lib.hid (HO.out.far HB2.out)
        have HB1 := Lib.hid (HB.out.trans (HB2.out.mono HB.out.size))
        obtain ⟨A2', n2', c2', e2, hn2, hnc2, hcm2, hs2⟩ := HD.out.read
        simp only [Value.slice.injEq] at e2
        obtain ⟨rfl, rfl, rfl⟩ := e2
        have hbk : ∀ b, (Value.slice A3 n3 c3).ownBlock = some b → b < wo.heap.size := fun b hb => (HO.out.block_lt hb).2
        have HBK := Lib.hid hbk
        have HS2 := Lib.hid hs2
        have HLEN2 := HLEN
        have hn2b : n2 ≤ 19 := by have := HLEN.out; have := hn2.out; omega
        have hwo := HB2.out.size
        clear HLEN hbk hs2 hx9 HB2
        have HLEN : Hid ((List.replicate k (48 : UInt8)).length ≤ 40) := Lib.hid (by simpa using hk)
        go_wp2_with (at_builtin; refine wpList_append_Own _ rfl (.tmp 52) (.tmp 56) 22 rfl Rep.byte w.heap.size 5 1 stBytes nob (.slice A3 n3 c3) (List.replicate k 48) rfl (HO1.out.alloc _) (under (wr.heap.size + 1)) _ _ [dg x] rfl (byteNew wr _ (dg x) (by rw [dg_nat hx9']; omega) _ (Nat.lt_succ_self _)) nob (fun _ h => h.elim) (fun _ h => h) (fun _ _ h => h) (by have := HLEN.out; simp only [List.length_cons, List.length_nil]; omega) (by have := HLEN.out; simp only [List.length_cons, List.length_nil]; omega) (by have := HB1.out.size; simp; omega) ?_; intro v4 w4 hown4 hg4 hat4; obtain ⟨A4, n4, c4, rfl, -, -, -⟩ := hown4.form; have HB4 := Lib.hid (below_own (HB1.out.alloc HB1.out.size _) (HO1.out.alloc _) hg4 (by have := HB1.out.size; simp; omega)); have HO4 := Lib.hid hown4; have HG4 := Lib.hid hg4; have HAT4 := Lib.hid hat4; clear hown4 hg4 hat4)
        clear HLEN
        have HSQ : Hid (SliceAt Rep.byte w4 (btw wo.heap.size wr.heap.size) A2 c2 ds) := Lib.hid (HS2.out.keep (fun _ h => h) fun b hb => by
          rw [HG4.out.block b (by have := hb.2; simp; omega) (by intro e; have h2 := HBK.out b e.symm; have := hb.1; omega)]
          exact Below.heap_alloc wr _ b hb.2)
        have HQB : Hid (∀ b, (Value.slice A4 n4 c4).ownBlock = some b → b < wo.heap.size ∨ wr.heap.size ≤ b) := Lib.hid fun b hb => by
          rcases HAT4.out with e | e <;> rw [e] at hb
          · exact .inl (HBK.out b hb)
          · simp at hb; exact .inr (by omega)
        have hwq : wr.heap.size ≤ w4.heap.size := by have := HG4.out.size; simp at this; omega
        obtain ⟨T1, hT1⟩ : ∃ T1, T1 = List.replicate k 48 ++ [dg x] := ⟨_, rfl⟩
        have HT1 := Lib.hid hT1
        rw [← hT1] at HO4
        have HT1L : Hid (T1.length ≤ 41) := Lib.hid (by rw [hT1]; simp; omega)
        have HWQ := Lib.hid hwq
        clear hT1 HG4 HAT4 HO1 HB1 HS2 HO HD hwq
        obtain ⟨w2, rfl⟩ : ∃ w2 : World, w2 = wr := ⟨_, rfl⟩
        go_loopg [10, 14] n2 (fun j v10 v14 wq => ∃ (i : Nat) (A4 : Option Addr) (n4 c4 : Nat), j = i ∧ i ≤ n2 ∧ v14 = .int .i64 ((i : Int) - 1) ∧ v10 = .slice A4 n4 c4 ∧ Hid (Own Rep.byte 5 wq w.heap.size nob (.slice A4 n4 c4) (T1 ++ ds.reverse.take (ds.length - i))) ∧ Hid (∀ b, (Value.slice A4 n4 c4).ownBlock = some b → b < wo.heap.size ∨ w2.heap.size ≤ b) ∧ Hid (SliceAt Rep.byte wq (btw wo.heap.size w2.heap.size) A2 c2 ds) ∧ Hid (Below w.heap.size w wq) ∧ Hid (w2.heap.size ≤ wq.heap.size))
        case atStart => exact ⟨n2, A4, n4, c4, rfl, Nat.le_refl _, rfl, rfl, Lib.hid (by rw [hn2.out, Nat.sub_self, List.take_zero, List.append_nil]; exact HO4.out), HQB, HSQ, HB4, HWQ⟩
        case round =>
          clear HO4 HQB HSQ HB4 HWQ
          obtain ⟨i, A5, n5, c5, hj, hi, rfl, rfl, HO5, HQB, HSQ, HB5, HWQ⟩ := hrel
          have hj := hj.symm
          subst hj
          cases i with
          | succ j =>
            have e1 : ((j + 1 : Nat) : Int) - 1 = (j : Int) := by omega
            rw [e1]
            clear e1
            have hjl : j < ds.length := by have := hn2.out; omega
            obtain ⟨g2, o2, rfl, hg2, hc2⟩ := HSQ.out.byte hjl
            have HRT := Lib.hid (rev_take ds j hjl)
            obtain ⟨z, hz⟩ : ∃ z, z = ds[j] := ⟨_, rfl⟩
            rw [← hz] at hc2 HRT
            have hjn : (j : Int) < (n2 : Int) := by omega
            have hj0 : (0 : Int) ≤ (j : Int) := Int.natCast_nonneg _
            have HLEN : Hid ((T1 ++ ds.reverse.take (ds.length - (j + 1))).length ≤ 100) := Lib.hid (by rw [List.length_append, List.length_take]; have := HT1L.out; have := HLEN2.out; omega)
            have d1 : decide ((0 : Int) ≤ j) = true := decide_eq_true (by omega)
            clear hz
            go_wp2_with (at_builtin; refine wpList_append_Own _ rfl (.tmp 65) (.tmp 70) 22 rfl Rep.byte w.heap.size 5 1 stBytes nob (.slice A5 n5 c5) _ rfl (HO5.out.alloc _) (under (wr.heap.size + 1)) _ _ [z] rfl (byteNew wr _ z rfl _ (Nat.lt_succ_self _)) nob (fun _ h => h.elim) (fun _ h => h) (fun _ _ h => h) (by have := HLEN.out; simp only [List.length_cons, List.length_nil]; omega) (by have := HLEN.out; simp only [List.length_cons, List.length_nil]; omega) (by have := HB5.out.size; simp; omega) ?_; intro v6 w6 hown6 hg6 hat6; obtain ⟨A6, n6, c6, rfl, -, -, -⟩ := hown6.form; have HB6 := Lib.hid (below_own (HB5.out.alloc HB5.out.size _) (HO5.out.alloc _) hg6 (by have := HB5.out.size; simp; omega)); have HO6 := Lib.hid hown6; have HG6 := Lib.hid hg6; have HAT6 := Lib.hid hat6; clear hown6 hg6 hat6)
            go_roundg j
            case measure => omega
            case rel =>
              refine ⟨j, A6, n6, c6, rfl, by omega, rfl, rfl, Lib.hid ?_, Lib.hid fun b hb => ?_, Lib.hid (HSQ.out.keep (fun _ h => h) fun b hb => ?_), HB6, Lib.hid (by have h6 := HG6.out.size; have := HWQ.out; simp at h6; omega)⟩
              · rw [← HRT.out, ← List.append_assoc]; exact HO6.out
              · rcases HAT6.out with e | e <;> rw [e] at hb
                · exact HQB.out b hb
                · simp at hb; have := HWQ.out; exact .inr (by omega)
              · rw [HG6.out.block b (by have := hb.2; have := HWQ.out; simp; omega) (by intro e; have h2 := HQB.out b e.symm; have := hb.1; have := hb.2; omega)]
                exact Below.heap_alloc wr _ b (by have := hb.2; have := HWQ.out; omega)
          | zero =>
            have e1 : ((0 : Nat) : Int) - 1 = -1 := rfl
            rw [e1]
            clear e1
            obtain ⟨D, hD⟩ : ∃ D, D = T1 ++ ds.reverse := ⟨_, rfl⟩
            have HDV : Hid (Words.val 0 D = x0) := Lib.hid (by
              rw [hD, HT1.out, List.append_assoc, Words.val_zeros, List.singleton_append, Words.val_snoc, dg_val hx9']
              have := HV.out
              rw [← this]
              congr 1
              omega)
            have HDD : Hid (∀ c ∈ D, Words.isDig c = true) := Lib.hid (by
              rw [hD, HT1.out]
              intro c hc
              simp only [List.mem_append, List.mem_replicate, List.mem_singleton, List.mem_reverse] at hc
              rcases hc with (⟨-, rfl⟩ | rfl) | hc
              · rfl
              · exact dg_isDig hx9'
              · exact HDG.out c hc)
            have HDN : Hid (D ≠ []) := Lib.hid (by rw [hD, HT1.out]; simp)
            have HDL : Hid (D.length ≤ 60) := Lib.hid (by rw [hD, List.length_append, List.length_reverse]; have := HT1L.out; have := HLEN2.out; omega)
            have hO : Own Rep.byte 5 wr w.heap.size nob (.slice A5 n5 c5) D := by
              have := HO5.out
              rw [Nat.sub_zero, List.take_of_length_le (by rw [List.length_reverse]; exact Nat.le_refl _), ← hD] at this
              exact this
            obtain ⟨hn5, hnc5, hcm5, -⟩ := hO.atS
            have HO := Lib.hid hO
            have hn5b : n5 ≤ 60 := by have := HDL.out; omega
            have HN5 := Lib.hid hn5
            clear hO hn5 hD HO5 HQB HSQ HWQ HT1 HT1L HV HDG HP HLEN2 HBK hn2
            obtain ⟨b0, hb0⟩ : ∃ b0 : Bool, b0 = firstDig l := ⟨_, rfl⟩
            have HB0 := Lib.hid hb0
            clear hb0
            go_upto_region 20 with fail
            go_cut [88] from 74 (fun v88 wc => v88 = .bool b0 ∧ wc = wr)
            case first =>
              cases l with
              | nil =>
                obtain rfl : n = 0 := hn.out
                go_wp2_with fail
                go_meet
                case rel => exact ⟨by rw [HB0.out]; rfl, rfl⟩
              | cons z l2 =>
                obtain ⟨gl, ol, rfl, hgl, hcl⟩ := (hl.out.keep (fun _ h => h) fun b hb => HB5.out.block b hb : SliceAt Rep.byte wr (under w.heap.size) A c (z :: l2)).byte (i := 0) (by simp)
                have hcl : wr.cell? ⟨gl, ol + 0, none⟩ = some (.int .u8 z.toNat) := hcl
                have hcl2 : wr.cell? ⟨gl, ol, none⟩ = some (.int .u8 z.toNat) := hcl
                have hn1 : (0 : Int) < (n : Int) := by have h1 := hn.out; simp at h1; omega
                have dn : decide ((0 : Int) < (n : Int)) = true := decide_eq_true hn1
                have hr : b0 = (decide (48 ≤ z.toNat) && decide (z.toNat ≤ 57)) := HB0.out
                by_cases h1 : (48 : Int) ≤ z.toNat
                · have d1 : decide ((48 : Int) ≤ z.toNat) = true := decide_eq_true h1
                  by_cases h2 : (z.toNat : Int) ≤ 57
                  · have d2 : decide ((z.toNat : Int) ≤ 57) = true := decide_eq_true h2
                    have HR : Hid (b0 = true) := Lib.hid (by rw [hr, decide_eq_true (by omega), decide_eq_true (by omega)]; rfl)
                    clear hr h1 h2
                    go_wp2_with fail
                    go_meet
                    case rel => exact ⟨by rw [HR.out], rfl⟩
                  · have d2 : decide ((z.toNat : Int) ≤ 57) = false := decide_eq_false h2
                    have HR : Hid (b0 = false) := Lib.hid (by rw [hr, decide_eq_false (p := z.toNat ≤ 57) (by omega), Bool.and_false])
                    clear hr h1 h2
                    go_wp2_with fail
                    go_meet
                    case rel => exact ⟨by rw [HR.out], rfl⟩
                · have d1 : decide ((48 : Int) ≤ z.toNat) = false := decide_eq_false h1
                  have HR : Hid (b0 = false) := Lib.hid (by rw [hr, decide_eq_false (p := 48 ≤ z.toNat) (by omega), Bool.false_and])
                  clear hr h1
                  go_wp2_with fail
                  go_meet
                  case rel => exact ⟨by rw [HR.out], rfl⟩
            case rest =>
              obtain ⟨rfl, rfl⟩ := hcut
              cases b0 with
              | true =>
                go_wp2_with fail
                go_ret
                exact ⟨rfl, HB5.out⟩
              | false =>
                have hl5 : SliceAt Rep.byte wc (under w.heap.size) A c l := hl.out.keep (fun _ h => h) fun b hb => HB5.out.block b hb
                have HL5 := Lib.hid hl5
                have HLL : Hid (l.length ≤ 16777216) := Lib.hid (by have := hn.out; omega)
                clear hl5
                go_upto_region 23 with (at_builtin; refine wpList_append_Own _ rfl (.tmp 90) (.tmp 91) 22 rfl Rep.byte w.heap.size 5 1 stBytes nob (.slice A5 n5 c5) D rfl HO.out (under w.heap.size) _ _ l (by rw [hn.out]; rfl) HL5.out nob (fun _ h => h.elim) (fun _ h => h) (fun _ _ h => h) (by have := HDL.out; have := HLL.out; omega) (by have := HDL.out; have := HLL.out; omega) (by have := HB5.out.size; omega) ?_; intro v6 w6 hown6 hg6 hat6; obtain ⟨A6, n6, c6, rfl, hn6, hnc6, hcm6⟩ := hown6.form; have HB6 := Lib.hid (below_own HB5.out HO.out hg6 (by have := HB5.out.size; omega)); have HO6 := Lib.hid hown6; clear hown6 hg6 hat6)
                have hn6b : n6 ≤ 20000000 := by have h1 := hn6.out; have := HDL.out; have := HLL.out; rw [List.length_append] at h1; omega
                have HS6 := Lib.hid HO6.out.atS.2.2.2
                clear HO HO6 HB5 HL5
                go_wp2_with fail
                refine (new_any A6 n6 c6 (D ++ l) w6 _ hn6 HS6 (by omega)).mono ?_
                rintro e w7 ⟨g7, A7, c7, rfl, hg7, HW7, hb7⟩
                have HB7 := Lib.hid (HB6.out.trans (hb7.out.mono HB6.out.size))
                have HG7 := Lib.hid (Nat.le_trans HB6.out.size hg7)
                clear hb7 hg7 HB6 HS6
                by_cases hmneg : most < 0
                · have dm : decide (most < 0) = true := decide_eq_true hmneg
                  have HNN := Lib.hid (number_neg w7 g7 n6 c7 0 A7 (D ++ l) most HW7 hmneg)
                  clear hmneg
                  go_wp2_with fail
                  refine HNN.out.mono ?_
                  rintro e w8 ⟨rfl, hb8⟩
                  have HB8 := Lib.hid (HB7.out.trans (hb8.mono HB7.out.size))
                  have HW8 := Lib.hid (HW7.out.far hb8)
                  clear hb8 HB7 HW7 HNN
                  go_wp2_with fail
                  refine (at_any w8 _ _ _ _ _ _ HW8).mono ?_
                  rintro e w9 ⟨rfl, rfl⟩
                  go_wp2_with fail
                  go_ret
                  exact ⟨rfl, HB8.out⟩
                · have dm : decide (most < 0) = false := decide_eq_false hmneg
                  have hm0 : 0 ≤ most := by omega
                  have hnum := Words.number_of most D l HDD.out (fun z r e => by have := HB0.out; rw [e] at this; exact this.symm) HDN.out hm0
                  rw [HDV.out] at hnum
                  by_cases hgt : most < (x0 : Int)
                  · have dg1 : decide (most < (x0 : Int)) = true := decide_eq_true hgt
                    rw [if_pos hgt] at hnum
                    have HNN := Lib.hid (number_any w7 g7 n6 c7 0 A7 (D ++ l) most 0 71 0 HW7 hm0 hmo (by omega) (Lib.hid hnum))
                    clear hmneg hgt hnum
                    go_wp2_with fail
                    refine HNN.out.mono ?_
                    rintro e w8 ⟨rfl, HW8, ho8⟩
                    have HB8 := Lib.hid (HB7.out.trans (ho8.out.one HB7.out.size HG7.out))
                    clear ho8 HB7 HW7 HNN
                    go_wp2_with fail
                    refine (at_any w8 _ _ _ _ _ _ HW8).mono ?_
                    rintro e w9 ⟨rfl, rfl⟩
                    go_wp2_with fail
                    go_ret
                    exact ⟨rfl, HB8.out⟩
                  · have dg1 : decide (most < (x0 : Int)) = false := decide_eq_false hgt
                    rw [if_neg hgt, ← HN5.out] at hnum
                    have HNN := Lib.hid (number_any w7 g7 n6 c7 0 A7 (D ++ l) most x0 0 n5 HW7 hm0 hmo (by omega) (Lib.hid hnum))
                    clear hmneg hgt hnum
                    go_wp2_with fail
                    refine HNN.out.mono ?_
                    rintro e w8 ⟨rfl, HW8, ho8⟩
                    have HB8 := Lib.hid (HB7.out.trans (ho8.out.one HB7.out.size HG7.out))
                    clear ho8 HB7 HW7 HNN
                    go_wp2_with fail
                    refine (at_any w8 _ _ _ _ _ _ HW8).mono ?_
                    rintro e w9 ⟨rfl, rfl⟩
                    go_wp2_with fail
                    go_ret
                    exact ⟨rfl, HB8.out⟩
end Go.Proofs.Ytooempbgpfhdcaa
