/- The small functions of chapter 28's laws: long, works. Conditions: texts of at most 2^20 bytes (long); the tables of UTF-8 (works). -/
import Derived.Test.YtmjagjcaepbklaaDoorProg
import Derived.Test.YtmjagjcaepbklaaDoorOptsPrint
import Derived.Test.YtmjagjcaepbklaaDoorOptsBackPlain
namespace Go.Proofs.YtmjagjcaepbklaaDoor
open Go.RowKit

set_option maxRecDepth 100000 in
set_option maxHeartbeats 2000000 in
theorem long_any (A : Option Addr) (n c : Nat) (l : List ByteArray) (w : World) (S : Blocks) (hn : Hid (n = l.length)) (hl : Hid (SliceAt Rep.str w S A c l)) (hs : Hid (∀ x ∈ l, x.size ≤ 140737488351232)) :
    Calls Tryd.prog 9 #[.slice A n c] w fun e w' => (∃ b, e = .returned (.bool b) ∧ (b = false → n ≤ 67108864)) ∧ w = w' := by
  have hnc := hl.out.len
  have hcm := hl.out.max
  rw [← hn.out] at hnc
  go_enter Tryd.func9, Tryd.ntmps9
  go_wp2_with fail
  go_loopg [3, 4] n (fun k v3 v4 wr => ∃ i m : Nat, i ≤ n ∧ v4 = .int .i64 i ∧ v3 = .int .i64 m ∧ k = n - i ∧ m ≤ 140737555460097 ∧ i ≤ m ∧ wr = w)
  case atStart => exact ⟨0, 0, Nat.zero_le _, rfl, rfl, rfl, Nat.zero_le _, Nat.le_refl _, rfl⟩
  case round =>
    obtain ⟨i, m, hi, rfl, rfl, rfl, hm, him, rfl⟩ := hrel
    by_cases hlt : i < n
    · by_cases hmm : m ≤ 67108864
      · have hil : i < l.length := by have := hn.out; omega
        obtain ⟨g, o, rfl, -, hx, hsz⟩ := hl.out.texts hil
        have hsz2 := hs.out l[i] (List.getElem_mem _)
        obtain ⟨x, hxe⟩ : ∃ x, x = l[i] := ⟨_, rfl⟩
        have hx' : wr.cell? ⟨g, o + i, none⟩ = some (.string x) := by rw [hx, hxe]
        have hsz' : x.size ≤ 140737488351232 := by rw [hxe]; exact hsz2
        have hd1 : decide ((m : Int) ≤ 67108864) = true := decide_eq_true (by omega)
        clear hx hsz hsz2 hxe
        go_wp2_with fail
        go_roundg (n - (i + 1))
        case measure => omega
        case rel => exact ⟨i + 1, m + 1 + x.size, by omega, by go_num, by go_num, rfl, by omega, by omega, rfl⟩
      · have hd1 : decide ((m : Int) ≤ 67108864) = false := decide_eq_false (by omega)
        have hd2 : decide ((67108864 : Int) < m) = true := decide_eq_true (by omega)
        go_wp2_with fail
        go_ret
        exact ⟨⟨true, rfl, fun h => by simp at h⟩, rfl⟩
    · obtain rfl : i = n := by omega
      by_cases hmm : m ≤ 67108864
      · have hd2 : decide ((67108864 : Int) < m) = false := decide_eq_false (by omega)
        go_wp2_with fail
        go_ret
        exact ⟨⟨false, rfl, fun _ => by omega⟩, rfl⟩
      · have hd2 : decide ((67108864 : Int) < m) = true := decide_eq_true (by omega)
        go_wp2_with fail
        go_ret
        exact ⟨⟨true, rfl, fun h => by simp at h⟩, rfl⟩
theorem parse_lit : Opts.parse [⟨#[45, 110, 69]⟩, ⟨#[112]⟩, ⟨#[120]⟩] = .good ⟨⟨true, true, false, false⟩, [(false, ⟨#[112]⟩)], [⟨#[120]⟩]⟩ := by
  unfold Opts.parse
  rw [Opts.words_word _ _ ⟨#[45, 110, 69]⟩ _ rfl (by decide)]
  rw [show Opts.tail ⟨#[45, 110, 69]⟩ = ⟨#[110, 69]⟩ from rfl]
  have h1 : Lib.decodeGo ⟨#[110, 69]⟩ = (110, 1) := Opts.dec_ascii (y := ⟨#[110, 69]⟩) (show 0 < 2 by decide) (by decide)
  have h2 : Opts.rest ⟨#[110, 69]⟩ = ⟨#[69]⟩ := by unfold Opts.rest; rw [h1]; rfl
  rw [Opts.word_step _ ⟨true, false, false, false⟩ (w := ⟨#[110, 69]⟩) (show 0 < 2 by decide) (by rw [h1]; rfl), h2, Opts.word_flag _ ⟨true, true, false, false⟩ 69 (by decide) rfl]
  show Opts.finA (Opts.words _) = _
  rw [Opts.words_not _ _ ⟨#[112]⟩ _ rfl]
  rfl
theorem print_lit : Opts.print ⟨⟨false, false, true, false⟩, [(false, ⟨#[113]⟩)], []⟩ = [⟨#[45, 115]⟩, ⟨#[45, 101]⟩, ⟨#[113]⟩, ⟨#[45, 45]⟩] := rfl
theorem prt1 (w : World) (e : TypeId) (b : Bool) (x : ByteArray) (q : Nat) (hx : x.size ≤ maxLen) (hq : q = w.heap.size) (B : Nat) (hB : w.heap.size < B) : SliceAt Rep.prt (w.alloc (.cells #[.bool b, .string x] e)) (under B) (some ⟨q, 0, none⟩) 1 [(b, x)] := by
  subst hq
  exact (SliceAt.new1 Rep.prt w e #[.bool b, .string x] (b, x) nob ⟨[_], [_], rfl, rfl, rfl, hx⟩ (fun _ h => h.elim)).up fun b hb => by rcases hb with rfl | h; exact hB; exact h.elim
theorem str3 (w : World) (e : TypeId) (x y z : ByteArray) (hx : x.size ≤ maxLen) (hy : y.size ≤ maxLen) (hz : z.size ≤ maxLen) : SliceAt Rep.str (w.alloc (.cells #[.string x, .string y, .string z] e)) (under (w.heap.size + 1)) (some ⟨w.heap.size, 0, none⟩) 3 [x, y, z] := by
  refine (SliceAt.newRow Rep.str w e #[.string x, .string y, .string z] [x, y, z] nob 3 3 rfl (Nat.le_refl _) (by simp [maxLen]) (fun i hi => ?_) (fun _ h => h.elim)).up fun b hb => by rcases hb with rfl | h; exact Nat.lt_succ_self _; exact h.elim
  match i, hi with
  | 0, _ => exact ⟨rfl, hx⟩
  | 1, _ => exact ⟨rfl, hy⟩
  | 2, _ => exact ⟨rfl, hz⟩
theorem str4 (w : World) (e : TypeId) (x y z t : ByteArray) (hx : x.size ≤ maxLen) (hy : y.size ≤ maxLen) (hz : z.size ≤ maxLen) (ht : t.size ≤ maxLen) : SliceAt Rep.str (w.alloc (.cells #[.string x, .string y, .string z, .string t] e)) (under (w.heap.size + 1)) (some ⟨w.heap.size, 0, none⟩) 4 [x, y, z, t] := by
  refine (SliceAt.newRow Rep.str w e #[.string x, .string y, .string z, .string t] [x, y, z, t] nob 4 4 rfl (Nat.le_refl _) (by simp [maxLen]) (fun i hi => ?_) (fun _ h => h.elim)).up fun b hb => by rcases hb with rfl | h; exact Nat.lt_succ_self _; exact h.elim
  match i, hi with
  | 0, _ => exact ⟨rfl, hx⟩
  | 1, _ => exact ⟨rfl, hy⟩
  | 2, _ => exact ⟨rfl, hz⟩
  | 3, _ => exact ⟨rfl, ht⟩
set_option maxRecDepth 100000 in
set_option maxHeartbeats 4000000 in
theorem worksO_any (w : World) (hT : Hid (Lib.Utf8Tabs 0 1 w)) : Calls Tryd.prog 8 #[] w fun e w' => e = .returned (.bool true) ∧ Below w.heap.size w w' := by
  have HP := Lib.hid (parse_any (some ⟨w.heap.size, 0, none⟩) 3 3 [⟨#[45, 110, 69]⟩, ⟨#[112]⟩, ⟨#[120]⟩] (w.alloc (.cells #[.string ⟨#[45, 110, 69]⟩, .string ⟨#[112]⟩, .string ⟨#[120]⟩] 9)) (Lib.hid rfl) (Lib.hid (by simpa using str3 w 9 ⟨#[45, 110, 69]⟩ ⟨#[112]⟩ ⟨#[120]⟩ (by decide) (by decide) (by decide))) (Lib.hid (Utf8Tabs_below hT.out ((Below.refl _ _).alloc (Nat.le_refl _) _))) (by omega))
  rw [parse_lit] at HP
  go_enter Tryd.func8, Tryd.ntmps8
  go_wp2_with fail
  refine HP.out.mono ?_
  rintro e w2 ⟨⟨v, u, he, ho1, ho2, -⟩, hb2⟩
  simp only [oCells] at he
  subst he
  have hb2' : Below w.heap.size w w2 := ((Below.refl _ w).alloc (Nat.le_refl _) _).trans (hb2.mono (by simp))
  obtain ⟨A1, n1, c1, rfl, hn1, hnc1, hcm1⟩ := ho1.form
  obtain rfl : n1 = 1 := hn1.out
  obtain ⟨A2, n2, c2, rfl, hn2, hnc2, hcm2⟩ := ho2.form
  obtain rfl : n2 = 1 := hn2.out
  obtain ⟨A1', c1', e1, hs1⟩ := ho1.slice
  simp only [Value.slice.injEq, List.length_cons, List.length_nil] at e1
  obtain ⟨rfl, -, rfl⟩ := e1
  obtain ⟨g1, o1, rfl, hg1, hk0, hk1, -⟩ := hs1.prts (i := 0) (by simp)
  simp only [List.getElem_cons_zero, Nat.zero_mul, Nat.add_zero] at hk0 hk1
  have hg1' : g1 < w2.heap.size := by
    rcases hg1 with h | h
    · exact h.2.1
    · exact h.elim
  have HB2 := Lib.hid hb2'
  clear ho1 ho2 hb2 hb2' hs1 hg1 HP hn1 hn2
  obtain ⟨W3, hW3⟩ : ∃ W3, W3 = (w2.alloc (.cells #[.bool true, .bool true, .bool false, .bool false, .slice (some ⟨g1, o1, none⟩) 1 c1, .slice A2 1 c2] 25)).alloc (.cells #[.bool false, .string ⟨#[113]⟩] 38) := ⟨_, rfl⟩
  have hO : W3.heap[w2.heap.size]? = some (.cells #[.bool true, .bool true, .bool false, .bool false, .slice (some ⟨g1, o1, none⟩) 1 c1, .slice A2 1 c2] 25) := by
    rw [hW3, heap_alloc_old _ _ (by simp)]
    exact heap_alloc_new _ _
  have hB3 : Below w2.heap.size w2 W3 := by rw [hW3]; exact ((Below.refl _ _).alloc (Nat.le_refl _) _).alloc (by simp) _
  have hs3 : W3.heap.size = w2.heap.size + 2 := by rw [hW3]; simp
  have HPr : Hid (SliceAt Rep.prt W3 (under W3.heap.size) (some ⟨w2.heap.size + 1, 0, none⟩) 1 [(false, ⟨#[113]⟩)]) := Lib.hid (by
    rw [hW3]
    exact prt1 _ _ false ⟨#[113]⟩ _ (by decide) (by simp) _ (by simp))
  have HPP := Lib.hid (print_any false false true false [(false, ⟨#[113]⟩)] [] (some ⟨w2.heap.size + 1, 0, none⟩) none 1 0 1 0 W3 (Lib.hid rfl) (Lib.hid rfl) HPr (Lib.hid (SliceAt.nil _ _ _)) (by omega) (by omega))
  rw [print_lit] at HPP
  rw [hW3] at HPP
  have HO := Lib.hid hO
  have HB3 := Lib.hid hB3
  have HW3 := Lib.hid hW3
  have HK := Lib.hid (And.intro hk0 hk1)
  clear hO hB3 hW3 HPr hk0 hk1
  go_wp2_with fail
  refine HPP.out.mono ?_
  clear HPP
  rintro e w4 ⟨v4, rfl, ho4, hb4⟩
  rw [← HW3.out] at ho4 hb4
  obtain ⟨A4, c4, rfl, hs4⟩ := ho4.slice
  have hblk := (hb4.block w2.heap.size (by omega)).trans HO.out
  have m0 := cell_of_row w4 w2.heap.size 0 _ _ (0, 0) hblk
  have m1 := cell_of_row w4 w2.heap.size 1 _ _ (0, 0) hblk
  have m2 := cell_of_row w4 w2.heap.size 2 _ _ (0, 0) hblk
  have m4 := cell_of_row w4 w2.heap.size 4 _ _ (0, 0) hblk
  have m5 := cell_of_row w4 w2.heap.size 5 _ _ (0, 0) hblk
  have m6 : w4.cell? ⟨g1, o1 + 1, none⟩ = some (.string ⟨#[112]⟩) := ((hb4.cell (p := ⟨g1, o1 + 1, none⟩) (by simp; omega)).trans (HB3.out.cell (p := ⟨g1, o1 + 1, none⟩) hg1')).trans HK.out.2
  simp at m0 m1 m2 m4 m5
  have HS4 := Lib.hid hs4
  have hn4 := hs4.len
  have hm4 := hs4.max
  have HB4 := Lib.hid (HB2.out.trans ((HB3.out.trans (hb4.mono (by omega))).mono HB2.out.size))
  simp only [List.length_cons, List.length_nil, Nat.zero_add, Nat.reduceAdd] at hn4 ⊢
  clear ho4 hb4 hs4 hblk
  have HE := Lib.hid (eqTexts A4 (some ⟨w4.heap.size, 0, none⟩) c4 4 [⟨#[45, 115]⟩, ⟨#[45, 101]⟩, ⟨#[113]⟩, ⟨#[45, 45]⟩] [⟨#[45, 115]⟩, ⟨#[45, 101]⟩, ⟨#[113]⟩, ⟨#[45, 45]⟩] (w4.alloc (.cells #[.string ⟨#[45, 115]⟩, .string ⟨#[45, 101]⟩, .string ⟨#[113]⟩, .string ⟨#[45, 45]⟩] 9)) (under w4.heap.size) _ (HS4.out.keep (fun b hb => by rcases hb with h | h; exact h.2.1; exact h.elim) (Same.of_below ((Below.refl w4.heap.size w4).alloc (Nat.le_refl _) _) fun b hb => by rcases hb with h | h; exact h.2.1; exact h.elim)) (str4 w4 9 ⟨#[45, 115]⟩ ⟨#[45, 101]⟩ ⟨#[113]⟩ ⟨#[45, 45]⟩ (by decide) (by decide) (by decide) (by decide)))
  go_wp2_with fail
  refine HE.out.mono ?_
  rintro e w5 ⟨rfl, nd, rfl⟩
  simp only [decide_true]
  go_wp2_with fail
  go_ret
  exact ⟨rfl, HB4.out.trans ((((Below.refl w4.heap.size w4).alloc (Nat.le_refl _) _).trans ((Below.drewN' _ nd).mono (by simp))).mono HB4.out.size)⟩
end Go.Proofs.YtmjagjcaepbklaaDoor
