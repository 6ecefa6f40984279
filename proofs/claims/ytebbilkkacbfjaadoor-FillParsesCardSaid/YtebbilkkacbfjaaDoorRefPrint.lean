/- The document's Print (galleyref16), walked: of what is well shaped, and of what is not. Condition: what it is made of is at most 2^31. -/
import Derived.Test.YtebbilkkacbfjaaDoorRefFill2
import Derived.Test.YtebbilkkacbfjaaDoorPrint2
namespace Go.Proofs.YtebbilkkacbfjaaDoor
open Go.RowKit

/-- The cells of bare marks. -/
def mcells (s : List UInt8) : List Value := s.flatMap fun b => [.int .u8 b.toNat, .bool false]
theorem mcells_len (s : List UInt8) : (mcells s).length = s.length * 2 := by induction s with | nil => rfl | cons b s ih => simp [mcells, Nat.add_mul] at *; omega
theorem mcells_at (s : List UInt8) : ∀ (i : Nat) (hi : i < s.length), ((mcells s).drop (i * 2)).take 2 = [.int .u8 s[i].toNat, .bool false] := by
  induction s with
  | nil => intro i hi; simp at hi
  | cons b s ih =>
    intro i hi
    cases i with
    | zero => simp [mcells]
    | succ i =>
      have := ih i (by simpa using hi)
      rw [show (i + 1) * 2 = i * 2 + 1 + 1 by omega]
      simpa [mcells] using this
theorem SliceAt.marks (w : World) (e : TypeId) (cs : Array Value) (s : List UInt8) (n q : Nat) (hn : s.length = n) (hm : n ≤ maxLen) (h : cs.toList = mcells s) (hq : q = w.heap.size) :
    SliceAt Rep.mark (w.alloc (.cells cs e)) (under (w.heap.size + 1)) (some ⟨q, 0, none⟩) n (bare s) := by
  subst hq
  refine (SliceAt.newRow Rep.mark w e cs (bare s) nob n n (by simpa [bare] using hn) (Nat.le_refl _) hm (fun i hi => ?_) (fun _ h => h.elim)).up fun b hb => by rcases hb with rfl | h; exact Nat.lt_succ_self _; exact h.elim
  have hi' : i < s.length := by simpa [bare] using hi
  rw [h]
  show Rep.mark.is w nob (((mcells s).drop (i * 2)).take 2) _
  rw [mcells_at s i hi']
  simp only [bare, List.getElem_map]
  exact ⟨[.int .u8 s[i].toNat], [.bool false], rfl, rfl, rfl⟩

/-- A box of a piece. -/
def PBox (w : World) (g : Nat) (y : Int) (At : Option Addr) (m ct : Nat) : Prop := w.heap[g]? = some (.cells #[.int .i64 y, .slice At m ct] 81 (0, 0))
theorem PBox.c0 {w : World} {g : Nat} {y : Int} {At : Option Addr} {m ct : Nat} (h : PBox w g y At m ct) : w.cell? ⟨g, 0, none⟩ = some (.int .i64 y) := cell_of_row w g 0 _ _ (0, 0) h
theorem PBox.c1 {w : World} {g : Nat} {y : Int} {At : Option Addr} {m ct : Nat} (h : PBox w g y At m ct) : w.cell? ⟨g, 1, none⟩ = some (.slice At m ct) := cell_of_row w g 1 _ _ (0, 0) h

/-- Marks, put behind a row of the call's own. -/
theorem wpList_marks {ops : Array Oper} {rest : List Oper} {o : Oper} {a : Act} {Q : Exit → Act → World → Prop} (hgd : o.guard = none) (s x : Operand)
    (ho : o.op = .call { callee := .builtin .append, args := #[s, x], argTypes := #[22, 22] })
    (B : Nat) (w0 w : World) (v : Value) (done : List UInt8) (hs : a.eval s = v) (hown : Hid (Own Rep.mark 34 w B nob v (bare done))) (hb : Hid (Below B w0 w)) (hB : B ≤ w.heap.size)
    (u : List UInt8) (n q : Nat) (hn : u.length = n) (hn2 : n ≤ 2) (cs : Array Value) (hcs : cs.toList = mcells u) (hq : q = w.heap.size) (hx : a.eval x = .slice (some ⟨q, 0, none⟩) n n) (hl : Hid (done.length + n ≤ 17179869184))
    (g : Nat) (y : Int) (At : Option Addr) (m ct : Nat) (hbox : Hid (PBox w g y At m ct))
    (h : ∀ A1 n1 c1 w', n1 ≤ c1 → c1 ≤ 9223372036854775807 → Hid (Own Rep.mark 34 w' B nob (.slice A1 n1 c1) (bare (done ++ u))) → Hid (Below B w0 w') → B ≤ w'.heap.size → w'.cell? ⟨g, 0, none⟩ = some (.int .i64 y) → w'.cell? ⟨g, 1, none⟩ = some (.slice At m ct) → Hid (PBox w' g y At m ct) → wpList Tryd.prog ops Q rest (a.put o.dst (.slice A1 n1 c1)) w') : wpList Tryd.prog ops Q (o :: rest) a (w.alloc (.cells cs 34)) := by
  have hlb : (bare done).length = done.length := by simp [bare]
  have hlu : (bare u).length = n := by simp [bare, hn]
  have hnew := SliceAt.marks w 34 cs u n q hn (by simp only [maxLen]; omega) hcs hq
  have hl' := hl.out
  refine wpList_append_Own _ hgd s x 22 ho Rep.mark B 34 2 stMarks' nob v (bare done) hs (hown.out.alloc _) (under (w.heap.size + 1)) (some ⟨q, 0, none⟩) n (bare u) (by rw [hx, hlu]) hnew nob (fun _ h => h.elim) (fun _ h => h) ?_ (by omega) (by omega) (by simp; omega) fun v' w' ho' hg hat => ?_
  · rintro cs x ⟨_, _, rfl, h1, h2⟩; exact ⟨_, _, rfl, h1, h2⟩
  · have hne : v.ownBlock ≠ some g := hown.out.ne_block hbox.out (by decide)
    have hgl : g < w.heap.size := (Array.getElem?_eq_some_iff.1 hbox.out).1
    have hbx : PBox w' g y At m ct := ((hg.block g (by simp; omega) (fun e => hne e.symm)).trans (Below.heap_alloc w _ g hgl)).trans hbox.out
    have hbb : Below B w0 w' := below_own (hb.out.alloc hB _) (hown.out.alloc _) hg (by simp; omega)
    obtain ⟨A1, n1, c1, rfl, -, k1, k2⟩ := ho'.form
    exact h A1 n1 c1 w' k1 k2 (Lib.hid (by rw [bare_append]; exact ho')) (Lib.hid hbb) (Nat.le_trans hB (Nat.le_trans (by simp) hg.size)) hbx.c0 hbx.c1 (Lib.hid hbx)

set_option maxHeartbeats 1000000 in
theorem refPrint_bad (A : Option Addr) (n ca : Nat) (l : List Piece) (w : World) (hn : Hid (n = l.length)) (hp : Hid (SliceAt Rep.piece w (under w.heap.size) A ca l)) (hs : shaped l = false) :
    Calls Tryd.prog 33 #[.slice A n ca] w fun e w' => e = .returned (.tuple #[.slice none 0 0, .int .i64 61]) ∧ Below w.heap.size w w' := by
  have HS := Lib.hid hs
  clear hs
  go_enter Tryd.func33, Tryd.ntmps33
  go_wp2_with (go_at_call 35; refine (refShaped_any _ n _ _ w _ hn hp (Lib.hid fun _ h => h)).mono ?_; rw [HS.out]; rintro e w2 ⟨rfl, hb2⟩)
  go_ret2
  exact ⟨rfl, hb2⟩

/-- .. a group has no text. -/
theorem shaped_text (l : List Piece) : ∀ tb, shapedFrom tb l = true → ∀ p ∈ l, p.group ≠ -1 → p.text = [] := by
  induction l with
  | nil => intro tb _ p hp; cases hp
  | cons q r ih =>
    intro tb h p hp hne
    unfold shapedFrom at h
    split at h
    · rename_i hg
      simp only [Bool.and_eq_true] at h
      rcases List.mem_cons.1 hp with rfl | hp
      · exact absurd hg hne
      · exact ih _ h.2 p hp hne
    · split at h
      · simp only [Bool.and_eq_true, decide_eq_true_eq] at h
        rcases List.mem_cons.1 hp with rfl | hp
        · exact h.1
        · exact ih _ h.2 p hp hne
      · cases h
theorem byte_wrap (q : Nat) : IntKind.u8.wrap (48 + (q : Int)) = ((UInt8.ofNat (48 + q)).toNat : Int) := by
  simp [IntKind.wrap, IntKind.signed, IntKind.bits]

set_option maxRecDepth 100000 in
set_option maxHeartbeats 4000000 in
theorem refPrint_any (A : Option Addr) (ca n : Nat) (l : List Piece) (w : World) (hn : Hid (n = l.length)) (hp : Hid (SliceAt Rep.piece w (under w.heap.size) A ca l)) (hs : shaped l = true) (hw : Hid (wt l ≤ 2147483648)) :
    Calls Tryd.prog 33 #[.slice A n ca] w fun e w' => ∃ v, e = .returned (.tuple #[v, .int .i64 0]) ∧ Own Rep.mark 34 w' w.heap.size nob v (bare (printed l)) ∧ Below w.heap.size w w' := by
  have HS := Lib.hid hs
  have hnc : n ≤ ca := by rw [hn.out]; exact hp.out.len
  have hcm := hp.out.max
  clear hs
  go_enter Tryd.func33, Tryd.ntmps33
  go_wp2_with (go_at_call 35; refine (refShaped_any _ n _ _ w _ hn hp (Lib.hid fun _ h => h)).mono ?_; rw [HS.out]; rintro e w2 ⟨rfl, hb2⟩; have HB2 := Lib.hid hb2; clear hb2)
  go_loopg [4, 5] n (fun q lv iv wr => ∃ i : Nat, i ≤ n ∧ iv = .int .i64 i ∧ q = n - i ∧ Hid (Own Rep.mark 34 wr w.heap.size nob lv (bare (printed (l.take i)))) ∧ Hid (Below w.heap.size w wr))
  case atStart => exact ⟨0, Nat.zero_le _, rfl, rfl, Lib.hid (Own.nil _ _ _ _), HB2⟩
  case round =>
    obtain ⟨i, hi, rfl, rfl, HO, HB⟩ := hrel
    obtain ⟨A1, n1, c1, rfl, -, kn1, kn2⟩ := HO.out.form
    have hsz := HB.out.size
    rcases Nat.lt_or_ge i n with hlt | hge
    · have hil : i < l.length := by rw [← hn.out]; exact hlt
      have hsame : Same (under w.heap.size) w wr := Same.of_below HB.out fun _ h => h
      obtain ⟨g, o, At, ct, rfl, k0, k1, htx, hwf, hwf'⟩ := piece_at hp.out hsame hil
      have hsh := shaped_at l false HS.out l[i] (List.getElem_mem hil)
      have hshT : l[i].group ≠ -1 → l[i].text = [] := shaped_text l false HS.out l[i] (List.getElem_mem hil)
      have hsize := wt_take l i hil
      have hpt := printed_take l i hil
      have hpl2 := printed_len (l.take i)
      have hww := hw.out
      have hlt1 := hww
      obtain ⟨⟨y, tx⟩, hpe⟩ : ∃ p, p = l[i] := ⟨_, rfl⟩
      rw [← hpe] at k0 k1 htx hwf hwf' hsh hshT hsize hpt
      simp only at k0 k1 htx hwf hwf' hsh hshT hsize
      obtain ⟨done, hdone⟩ : ∃ done, done = printed (l.take i) := ⟨_, rfl⟩
      rw [← hdone] at hpt hpl2 HO
      obtain ⟨m, hm⟩ : ∃ m, m = tx.length := ⟨_, rfl⟩
      rw [← hm] at k1 hsize
      have hm1 := htx.len
      have hm2 := htx.max
      rw [← hm] at hm1
      have hroom : done.length + 2 * m + 4 ≤ 17179869184 := by omega
      have HROOM := Lib.hid hroom
      have HPT := Lib.hid hpt
      have HTX := Lib.hid htx
      have HM := Lib.hid hm
      have HOW := Lib.hid (HO.out.alloc (.cells #[.int .i64 y, .slice At m ct] 81))
      have HBW := Lib.hid (HB.out.alloc hsz (.cells #[.int .i64 y, .slice At m ct] 81))
      have HBX : Hid (PBox (wr.alloc (.cells #[.int .i64 y, .slice At m ct] 81)) wr.heap.size y At m ct) := Lib.hid (heap_alloc_new wr _)
      have hWs : w.heap.size ≤ (wr.alloc (.cells #[.int .i64 y, .slice At m ct] 81)).heap.size := HBW.out.size
      clear hpe hdone hpl2 hsize hpt htx hm hroom hww hlt1 hsame
      rcases hsh with h1 | ⟨h1, h2⟩
      · subst h1
        have HPR := Lib.hid (show printOne ⟨-1, tx⟩ = tx.flatMap escB by simp [printOne])
        have kb0 := HBX.out.c0
        have kb1 := HBX.out.c1
        go_wp2_with fail
        obtain ⟨wo, rfl⟩ : ∃ wo : World, wo = wr := ⟨_, rfl⟩
        go_loopg [4, 7] m (fun q lv kv wq => ∃ j : Nat, j ≤ m ∧ kv = .int .i64 j ∧ q = m - j ∧ Hid (Own Rep.mark 34 wq w.heap.size nob lv (bare (done ++ (tx.take j).flatMap escB))) ∧ Hid (Below w.heap.size w wq) ∧ Hid (PBox wq wo.heap.size (-1) At m ct))
        case atStart => exact ⟨0, Nat.zero_le _, rfl, rfl, Lib.hid (by simpa using HOW.out), HBW, HBX⟩
        case round =>
          obtain ⟨j, hj, rfl, rfl, HO5, HB5, HX5⟩ := hrel
          obtain ⟨A5, n5, c5, rfl, -, kc1, kc2⟩ := HO5.out.form
          clear kb0 kb1 HBX HBW HOW hWs
          have kb0 := HX5.out.c0
          have kb1 := HX5.out.c1
          have hs5 := HB5.out.size
          rcases Nat.lt_or_ge j m with hjm | hjm
          · have hjl : j < tx.length := by rw [← HM.out]; exact hjm
            have hsame2 : Same (under w.heap.size) wo wr := fun b hb => (HB5.out.block b hb).trans (HB.out.block b hb).symm
            obtain ⟨gt, ot, rfl, -, hbc⟩ := (HTX.out.keep (fun _ h => h) hsame2).byte hjl
            have hnx : (tx.take (j + 1)).flatMap escB = (tx.take j).flatMap escB ++ escB tx[j] := by
              rw [List.take_succ_eq_append_getElem hjl, List.flatMap_append]; simp
            have hlen := escs_len (tx.take j)
            rw [List.length_take] at hlen
            obtain ⟨b, hbe⟩ : ∃ b, b = tx[j] := ⟨_, rfl⟩
            rw [← hbe] at hnx hbc
            obtain ⟨at_, hat⟩ : ∃ at_, at_ = done ++ (tx.take j).flatMap escB := ⟨_, rfl⟩
            have hal : at_.length + 2 ≤ 17179869184 := by have := HROOM.out; rw [hat, List.length_append]; omega
            have hnx2 : done ++ (tx.take (j + 1)).flatMap escB = at_ ++ escB b := by rw [hat, hnx, List.append_assoc]
            rw [← hat] at HO5
            have HNX := Lib.hid hnx2
            have HAL := Lib.hid hal
            clear hnx hnx2 hlen hal hat hbe hsame2
            by_cases h38 : b.toNat = 38
            · rw [h38] at hbc
              have he : escB b = [92, 38] := by
                have e : b = 38 := by rw [← UInt8.toNat_inj]; exact h38
                subst e; rfl
              rw [he] at HNX
              clear he h38
              go_wp2_with (first | (at_builtin; refine wpList_marks rfl (.tmp 63) (.tmp 65) rfl w.heap.size w _ _ at_ rfl HO5 HB5 hs5 [92] 1 _ rfl (by omega) _ rfl (by simp) rfl (Lib.hid (by have := HAL.out; omega)) wo.heap.size _ _ _ _ HX5 ?_; intro A6 n6 c6 w6 k61 k62 HO6 HB6 hs6 kb60 kb61 HX6) | (at_builtin; refine wpList_marks rfl (.tmp 69) (.tmp 72) rfl w.heap.size w _ _ (at_ ++ [92]) rfl HO6 HB6 hs6 [38] 1 _ rfl (by omega) _ rfl (by simp) rfl (Lib.hid (by have := HAL.out; simp; omega)) wo.heap.size _ _ _ _ HX6 ?_; intro A7 n7 c7 w7 k71 k72 HO7 HB7 hs7 kb70 kb71 HX7))
              go_roundg (m - (j + 1))
              case measure => omega
              case rel => exact ⟨j + 1, by omega, by go_num, rfl, Lib.hid (by rw [HNX.out, show at_ ++ ([92, 38] : List UInt8) = at_ ++ [92] ++ [38] by simp]; exact HO7.out), HB7, HX7⟩
            · by_cases h92 : b.toNat = 92
              · rw [h92] at hbc
                have he : escB b = [92, 92] := by
                  have e : b = 92 := by rw [← UInt8.toNat_inj]; exact h92
                  subst e; rfl
                rw [he] at HNX
                clear he h92
                go_wp2_with (first | (at_builtin; refine wpList_marks rfl (.tmp 63) (.tmp 65) rfl w.heap.size w _ _ at_ rfl HO5 HB5 hs5 [92] 1 _ rfl (by omega) _ rfl (by simp) rfl (Lib.hid (by have := HAL.out; omega)) wo.heap.size _ _ _ _ HX5 ?_; intro A6 n6 c6 w6 k61 k62 HO6 HB6 hs6 kb60 kb61 HX6) | (at_builtin; refine wpList_marks rfl (.tmp 69) (.tmp 72) rfl w.heap.size w _ _ (at_ ++ [92]) rfl HO6 HB6 hs6 [92] 1 _ rfl (by omega) _ rfl (by simp) rfl (Lib.hid (by have := HAL.out; simp; omega)) wo.heap.size _ _ _ _ HX6 ?_; intro A7 n7 c7 w7 k71 k72 HO7 HB7 hs7 kb70 kb71 HX7))
                go_roundg (m - (j + 1))
                case measure => omega
                case rel => exact ⟨j + 1, by omega, by go_num, rfl, Lib.hid (by rw [HNX.out, show at_ ++ ([92, 92] : List UInt8) = at_ ++ [92] ++ [92] by simp]; exact HO7.out), HB7, HX7⟩
              · by_cases h10 : b.toNat = 10
                · rw [h10] at hbc
                  have he : escB b = [92, 110] := by
                    have e : b = 10 := by rw [← UInt8.toNat_inj]; exact h10
                    subst e; rfl
                  rw [he] at HNX
                  clear he h10
                  go_wp2_with (first | (at_builtin; refine wpList_marks rfl (.tmp 63) (.tmp 65) rfl w.heap.size w _ _ at_ rfl HO5 HB5 hs5 [92] 1 _ rfl (by omega) _ rfl (by simp) rfl (Lib.hid (by have := HAL.out; omega)) wo.heap.size _ _ _ _ HX5 ?_; intro A6 n6 c6 w6 k61 k62 HO6 HB6 hs6 kb60 kb61 HX6) | (at_builtin; refine wpList_marks rfl (.tmp 69) (.tmp 72) rfl w.heap.size w _ _ (at_ ++ [92]) rfl HO6 HB6 hs6 [110] 1 _ rfl (by omega) _ rfl (by simp) rfl (Lib.hid (by have := HAL.out; simp; omega)) wo.heap.size _ _ _ _ HX6 ?_; intro A7 n7 c7 w7 k71 k72 HO7 HB7 hs7 kb70 kb71 HX7))
                  go_roundg (m - (j + 1))
                  case measure => omega
                  case rel => exact ⟨j + 1, by omega, by go_num, rfl, Lib.hid (by rw [HNX.out, show at_ ++ ([92, 110] : List UInt8) = at_ ++ [92] ++ [110] by simp]; exact HO7.out), HB7, HX7⟩
                · have he : escB b = [b] := by unfold escB; rw [if_neg (by omega), if_neg h10]
                  rw [he] at HNX
                  have h1' : ((b.toNat : Int) == 38) = false := by rw [beq_eq_false_iff_ne]; omega
                  have h2' : ((b.toNat : Int) == 92) = false := by rw [beq_eq_false_iff_ne]; omega
                  have h3' : ((b.toNat : Int) == 10) = false := by rw [beq_eq_false_iff_ne]; omega
                  clear he h38 h92 h10
                  go_wp2_with (at_builtin; refine wpList_marks rfl (.tmp 69) (.tmp 72) rfl w.heap.size w _ _ at_ rfl HO5 HB5 hs5 [b] 1 _ rfl (by omega) _ rfl (by simp) rfl (Lib.hid (by have := HAL.out; omega)) wo.heap.size _ _ _ _ HX5 ?_; intro A7 n7 c7 w7 k71 k72 HO7 HB7 hs7 kb70 kb71 HX7)
                  go_roundg (m - (j + 1))
                  case measure => omega
                  case rel => exact ⟨j + 1, by omega, by go_num, rfl, Lib.hid (by rw [HNX.out]; exact HO7.out), HB7, HX7⟩
          · obtain rfl : j = m := by omega
            have hfin : done ++ (tx.take j).flatMap escB = printed (l.take (i + 1)) := by
              rw [List.take_of_length_le (by rw [HM.out]; exact Nat.le_refl _), HPT.out, HPR.out]
            rw [hfin] at HO5
            clear hfin
            go_wp2_with fail
            go_roundg (n - (i + 1))
            case measure => omega
            case rel => exact ⟨i + 1, by omega, by go_num, rfl, HO5, HB5⟩
      · obtain ⟨q, rfl⟩ : ∃ q : Nat, y = q := ⟨y.toNat, by omega⟩
        have hq9 : q ≤ 9 := by omega
        have ht0 : tx = [] := hshT (by omega)
        obtain rfl : m = 0 := by rw [HM.out, ht0]; rfl
        clear h1 h2
        by_cases hq0 : q = 0
        · subst hq0
          have HPR := Lib.hid (show printOne ⟨(0 : Nat), tx⟩ = [38] by simp [printOne])
          go_wp2_with (at_builtin; refine wpList_marks rfl (.tmp 25) (.tmp 27) rfl w.heap.size w _ _ done rfl HOW HBW hWs [38] 1 _ rfl (by omega) _ rfl (by simp) rfl (Lib.hid (by have := HROOM.out; omega)) wr.heap.size _ _ _ _ HBX ?_; intro A2 n2 c2 w3 k1 k2 HO3 HB3 hs3 kb0 kb1 HX3)
          go_loopg [4, 7] 0 (fun q lv kv wq => lv = .slice A2 n2 c2 ∧ kv = .int .i64 0 ∧ q = 0 ∧ wq = w3)
          case atStart => exact ⟨rfl, rfl, rfl, rfl⟩
          case round =>
            obtain ⟨rfl, rfl, rfl, rfl⟩ := hrel
            go_wp2_with fail
            go_roundg (n - (i + 1))
            case measure => omega
            case rel => exact ⟨i + 1, by omega, by go_num, rfl, Lib.hid (by rw [HPT.out, HPR.out]; exact HO3.out), HB3⟩
        · have hqb : ((q : Int) == 0) = false := by rw [beq_eq_false_iff_ne]; omega
          have hqp : (0 : Int) < (q : Int) := by omega
          have HPR : Hid (printOne ⟨(q : Int), tx⟩ = [92, UInt8.ofNat (48 + q)]) := Lib.hid (by simp [printOne, hq0])
          have HW48 := byte_wrap q
          have h48 : (48 : Int) + (q : Int) ≤ 57 := by omega
          have kb0 := HBX.out.c0
          have kb1 := HBX.out.c1
          go_wp2_with (at_builtin; refine wpList_marks rfl (.tmp 32) (.tmp 39) rfl w.heap.size w _ _ done rfl HOW HBW hWs [92, UInt8.ofNat (48 + q)] 2 _ rfl (by omega) _ rfl (by simp) rfl (Lib.hid (by have := HROOM.out; omega)) wr.heap.size _ _ _ _ HBX ?_; intro A2 n2 c2 w3 k1 k2 HO3 HB3 hs3 kb0 kb1 HX3)
          go_loopg [4, 7] 0 (fun q lv kv wq => lv = .slice A2 n2 c2 ∧ kv = .int .i64 0 ∧ q = 0 ∧ wq = w3)
          case atStart => exact ⟨rfl, rfl, rfl, rfl⟩
          case round =>
            obtain ⟨rfl, rfl, rfl, rfl⟩ := hrel
            go_wp2_with fail
            go_roundg (n - (i + 1))
            case measure => omega
            case rel => exact ⟨i + 1, by omega, by go_num, rfl, Lib.hid (by rw [HPT.out, HPR.out]; exact HO3.out), HB3⟩
    · obtain rfl : i = n := by omega
      have HO2 : Hid (Own Rep.mark 34 wr w.heap.size nob (.slice A1 n1 c1) (bare (printed l))) := Lib.hid (by
        have := HO.out
        rwa [List.take_of_length_le (by rw [hn.out]; exact Nat.le_refl _)] at this)
      clear HO
      go_wp2_with fail
      go_ret2
      exact ⟨_, rfl, HO2.out, HB.out⟩
end Go.Proofs.YtebbilkkacbfjaaDoor
