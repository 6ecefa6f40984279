/- Texts that lead to the claim, one behind the other: The document's folders: the walks of galleyref03.drop, put, copied. Condition: the folder has at most 2^32 names. | The document's disk in memory: what it reads as, how it stays. No program in sight. No conditions. | May a file stand under it? The walk of galleyref03.Name. No conditions. | A disk of the document with files: the walks of galleyref03.copied and From. Condition: the files' bytes are below 2^40 each. -/
import Derived.Test.YtncpeogkccjmcaaGreatDoorTK17
import Derived.Sort.Walk0
import Derived.Laws.Cover1
import Derived.Test.YtncpeogkccjmcaaGreatDoorTK18
import Derived.Test.YtncpeogkccjmcaaGreatDoorTK6
import Derived.Deep.RegionHeld3
namespace Go.Proofs.YtncpeogkccjmcaaGreatDoor
open Go.RowKit Go.ChangeShapes Go.WideShapes Go.Deep

/-- An entry of a folder. -/
def Rep.ent : Rep (Disk.Nm × Nat) where
  n := 2
  is := fun _ _ cs p => cs = [sv p.1, .int .i64 p.2] ∧ p.1.length ≤ maxLen ∧ p.2 ≤ 1125899906842624
  size := by rintro _ _ _ _ ⟨rfl, _⟩; rfl
  keep := by rintro _ _ _ _ _ _ ⟨rfl, h⟩ _ _; exact ⟨rfl, h⟩
  one := by rintro _ _ _ _ ⟨rfl, _⟩; simp [Value.oneCell', sv]
theorem stEnt : SliceType Tryz.prog 89 116 2 24 := SliceType.mk' (z := .agg #[.string ⟨#[]⟩, .int .i64 0]) Tryz.underlying89 (by kernel_rfl) rfl (by omega)
theorem SliceAt.ent {w : World} {S : Blocks} {A : Option Addr} {c : Nat} {l : Disk.Fo} (h : SliceAt Rep.ent w S A c l) {i : Nat} (hi : i < l.length) :
    ∃ g o, A = some ⟨g, o, none⟩ ∧ S g ∧ w.cell? ⟨g, o + i * 2, none⟩ = some (.string ⟨(l[i]).1.toArray⟩) ∧ w.cell? ⟨g, o + i * 2 + 1, none⟩ = some (.int .i64 (l[i]).2) ∧ (l[i]).1.length ≤ maxLen ∧ (l[i]).2 ≤ 1125899906842624 := by
  obtain ⟨g, o, cs, e, hb, hc, rfl, h1, h2⟩ := h.at_ hi
  obtain ⟨k0, k1⟩ := hc.two
  exact ⟨g, o, e, hb, k0, k1, h1, h2⟩
theorem dropAll_snoc (l : Disk.Fo) (k : Disk.Nm) {j : Nat} (hj : j < l.length) : Disk.drop (l.take (j + 1)) k = if (l[j]).1 = k then Disk.drop (l.take j) k else Disk.drop (l.take j) k ++ [l[j]] := by
  rw [List.take_succ_eq_append_getElem hj]
  unfold Disk.drop
  rw [List.filter_append]
  split
  · rename_i h; simp [h]
  · rename_i h; simp [h]
theorem drop_len (l : Disk.Fo) (k : Disk.Nm) : (Disk.drop l k).length ≤ l.length := List.length_filter_le _ _
section
variable {w : World}
theorem bytes_ne {a b : ByteArray} (h : ¬ a.data.toList = b.data.toList) : (a.toList == b.toList) = false := by
  rw [ByteArray.toList_eq, ByteArray.toList_eq, beq_eq_false_iff_ne]; exact h
theorem bytes_eq {a b : ByteArray} (h : a.data.toList = b.data.toList) : (a.toList == b.toList) = true := by
  rw [ByteArray.toList_eq, ByteArray.toList_eq, h]; simp
set_option maxRecDepth 100000 in
set_option maxHeartbeats 2000000 in
theorem refDrop_any (l : Disk.Fo) (nm : ByteArray) (A : Option Addr) (n c : Nat) (S : Blocks) (hn : Hid (n = l.length)) (hl : Hid (SliceAt Rep.ent w S A c l)) (hS : Hid (∀ b, S b → b < w.heap.size)) (hnb : n ≤ 4294967296) :
    Calls Tryz.prog 83 #[.slice A n c, .string nm] w fun e w' => ∃ A' n' c', e = .returned (.slice A' n' c') ∧ Hid (n' = (Disk.drop l nm.data.toList).length) ∧ n' ≤ n ∧ n' ≤ c' ∧ c' ≤ 9223372036854775807 ∧ Own Rep.ent 116 w' w.heap.size nob (.slice A' n' c') (Disk.drop l nm.data.toList) ∧ Below w.heap.size w w' := by
  have hnc : n ≤ c := by rw [hn.out]; exact hl.out.len
  have hcm := hl.out.max
  obtain ⟨K, hK⟩ : ∃ K, K = nm.data.toList := ⟨_, rfl⟩
  rw [← hK]
  have HK := Lib.hid hK
  clear hK
  go_enter Tryz.func83, Tryz.ntmps83
  go_wp2_with fail
  go_loopg [5, 6] n (fun q v i wr => ∃ (j : Nat) (A' : Option Addr) (n' c' : Nat), q = n - j ∧ j ≤ n ∧ i = .int .i64 j ∧ v = .slice A' n' c' ∧ n' ≤ j ∧ n' ≤ c' ∧ c' ≤ 9223372036854775807 ∧ Hid (n' = (Disk.drop (l.take j) K).length) ∧ Hid (Own Rep.ent 116 wr w.heap.size nob (.slice A' n' c') (Disk.drop (l.take j) K)) ∧ Hid (Below w.heap.size w wr))
  case atStart => exact ⟨0, none, 0, 0, rfl, by omega, rfl, rfl, Nat.le_refl _, Nat.le_refl _, by omega, Lib.hid rfl, Lib.hid (Own.nil _ _ _ _), Lib.hid (Below.refl _ _)⟩
  case round =>
    obtain ⟨j, A', n', c', rfl, hj, rfl, rfl, hnj, hnc', hcm', HN', HV, HB⟩ := hrel
    by_cases hjn : j < n
    · have hjl : j < l.length := by rw [← hn.out]; exact hjn
      obtain ⟨g, o, rfl, hg, k0, k1, hk1, hk2⟩ := (hl.out.keep (S' := S) (fun _ h => h) (Same.of_below HB.out hS.out)).ent hjl
      obtain ⟨p, hp⟩ : ∃ p, p = l[j] := ⟨_, rfl⟩
      rw [← hp] at k0 k1 hk1 hk2
      obtain ⟨k, i⟩ := p
      simp only at k0 k1 hk1 hk2
      obtain ⟨x, hx⟩ : ∃ x : ByteArray, x = ⟨k.toArray⟩ := ⟨_, rfl⟩
      rw [← hx] at k0
      have HX : Hid (x.data.toList = k) := Lib.hid (by rw [hx])
      have hsn := dropAll_snoc l K hjl
      rw [← hp] at hsn
      simp only at hsn
      have HSV : Hid (Value.string x = sv k) := Lib.hid (congrArg Value.string hx)
      clear hp hg hx
      by_cases he : k = K
      · rw [if_pos he] at hsn
        have hbe := bytes_eq (a := x) (b := nm) (by rw [HX.out, he, HK.out])
        have HV2 := Lib.hid HV.out
        have HN2 := Lib.hid HN'.out
        rw [← hsn] at HV2 HN2
        clear hsn he
        go_wp2_with fail
        go_roundg (n - (j + 1))
        case measure => omega
        case rel => exact ⟨j + 1, A', n', c', rfl, by omega, by go_num, rfl, by omega, hnc', hcm', HN2, HV2, HB⟩
      · rw [if_neg he] at hsn
        have hbe := bytes_ne (a := x) (b := nm) (by rw [HX.out, ← HK.out]; exact he)
        have HSN := Lib.hid hsn
        clear hsn he
        go_wp2_with (at_builtin; refine wpList_append_Own _ rfl (.tmp 20) (.tmp 25) 89 rfl Rep.ent w.heap.size 116 24 stEnt nob (.slice A' n' c') (Disk.drop (l.take j) K) rfl (HV.out.alloc _) _ _ _ [(k, i)] rfl (SliceAt.new1 Rep.ent _ _ _ (k, i) nob ⟨by rw [← HSV.out], hk1, hk2⟩ (fun _ h => h.elim)) nob (fun _ h => h.elim) (fun _ h => h) (fun _ _ h => h) (by have := HN'.out; simp <;> omega) (by have := HN'.out; simp <;> omega) (by have := HB.out.size; simp <;> omega) ?_; intro v' w2 hown hg hat; obtain ⟨A2, n2, c2, rfl, hn2, hnc2, hcm2⟩ := hown.form; have HO := Lib.hid hown; have HB2 := Lib.hid (below_own (HB.out.alloc HB.out.size _) (HV.out.alloc _) hg (by have := HB.out.size; simp; omega)); clear hown hg hat)
        have hn2' : n2 ≤ j + 1 := by have h1 := hn2.out; have h2 := HN'.out; rw [List.length_append, List.length_singleton] at h1; omega
        rw [← HSN.out] at HO hn2
        go_roundg (n - (j + 1))
        case measure => omega
        case rel => exact ⟨j + 1, A2, n2, c2, rfl, by omega, by go_num, rfl, hn2', hnc2, hcm2, hn2, HO, HB2⟩
    · obtain rfl : j = n := by omega
      have hfin : l.take j = l := by rw [hn.out, List.take_length]
      rw [hfin] at HV HN'
      go_wp2_with fail
      go_ret
      exact ⟨A', n', c', rfl, HN', hnj, hnc', hcm', HV.out, HB.out⟩
theorem gtr_bytes {a b : ByteArray} {k p : List UInt8} (ha : a.data.toList = p) (hb : b.data.toList = k) :
    (k < p → Op.bytesLess a.toList b.toList = false ∧ (a.toList == b.toList) = false) ∧ (¬ k < p → Op.bytesLess a.toList b.toList = true ∨ (Op.bytesLess a.toList b.toList = false ∧ (a.toList == b.toList) = true)) := by
  rw [ByteArray.toList_eq, ByteArray.toList_eq, ha, hb, bytesLess_eq]
  rcases Disk.lt_tri k p with h | h | h
  · have h1 : ¬ p < k := fun h2 => Disk.lt_irrefl _ (Disk.lt_trans h h2)
    have h2 : p ≠ k := fun e => by rw [e] at h; exact Disk.lt_irrefl _ h
    simp [h, h1, h2]
  · subst h
    have := Disk.lt_irrefl k
    simp [this]
  · have h1 : ¬ k < p := fun h2 => Disk.lt_irrefl _ (Disk.lt_trans h h2)
    simp [h, h1]
theorem ins_go {k : Disk.Nm} {i : Nat} {L O : Disk.Fo} {j : Nat} {dn : Bool} (hj : j < L.length) (h : O ++ (if dn = true then L.drop j else Disk.ins k i (L.drop j)) = Disk.ins k i L) :
    (dn = true → (O ++ [L[j]]) ++ L.drop (j + 1) = Disk.ins k i L) ∧ (dn = false → k < (L[j]).1 → (O ++ [(k, i)] ++ [L[j]]) ++ L.drop (j + 1) = Disk.ins k i L) ∧ (dn = false → ¬ k < (L[j]).1 → (O ++ [L[j]]) ++ Disk.ins k i (L.drop (j + 1)) = Disk.ins k i L) := by
  rw [List.drop_eq_getElem_cons hj] at h
  refine ⟨fun e => ?_, fun e hlt => ?_, fun e hlt => ?_⟩
  · subst e; rw [← h]; simp
  · subst e; rw [← h, Disk.ins, if_neg (by simp), if_pos hlt]; simp
  · subst e; rw [← h, Disk.ins, if_neg (by simp), if_neg hlt]; simp
set_option maxRecDepth 100000 in
set_option maxHeartbeats 4000000 in
theorem refPut_any (l : Disk.Fo) (nm : ByteArray) (i : Nat) (A : Option Addr) (n c : Nat) (S : Blocks) (hn : Hid (n = l.length)) (hl : Hid (SliceAt Rep.ent w S A c l)) (hS : Hid (∀ b, S b → b < w.heap.size)) (hnb : n ≤ 2147483648) (hnm : Hid (nm.size ≤ maxLen)) (hib : i ≤ 1125899906842624) :
    Calls Tryz.prog 25 #[.slice A n c, .string nm, .int .i64 i] w fun e w' => ∃ A' n' c', e = .returned (.slice A' n' c') ∧ Hid (n' = (Disk.put l nm.data.toList i).length) ∧ n' ≤ n + 1 ∧ n' ≤ c' ∧ c' ≤ 9223372036854775807 ∧ Own Rep.ent 116 w' w.heap.size nob (.slice A' n' c') (Disk.put l nm.data.toList i) ∧ Below w.heap.size w w' := by
  have HD := Lib.hid (refDrop_any (w := w) l nm A n c S hn hl hS (by omega))
  have hnc : n ≤ c := by rw [hn.out]; exact hl.out.len
  have hcm := hl.out.max
  obtain ⟨K, hK⟩ : ∃ K, K = nm.data.toList := ⟨_, rfl⟩
  unfold Disk.put
  rw [← hK] at HD ⊢
  obtain ⟨L, hL⟩ : ∃ L, L = Disk.drop l K := ⟨_, rfl⟩
  rw [← hL] at HD ⊢
  have HK := Lib.hid hK
  have HSV : Hid (Value.string nm = sv K) := Lib.hid (by rw [hK]; rfl)
  have hKl : Hid (K.length ≤ maxLen) := Lib.hid (by rw [hK, Array.length_toList]; exact hnm.out)
  clear hK hL
  go_enter Tryz.func25, Tryz.ntmps25
  go_wp2_with fail
  refine HD.out.mono ?_
  rintro e w1 ⟨A1, m, c1, rfl, hm, hmn, hmc, hcm1, hown, hb1⟩
  obtain ⟨A9, c9, he9, hsl⟩ := hown.slice
  simp only [Value.slice.injEq] at he9
  obtain ⟨rfl, -, rfl⟩ := he9
  have HM := hm
  have HL1 : Hid (SliceAt Rep.ent w1 (under w1.heap.size) A1 c1 L) := Lib.hid (hsl.up fun b hb => by
    rcases hb with ⟨-, h, -⟩ | h
    · exact h
    · exact h.elim)
  have HB1 := Lib.hid hb1
  clear hsl hown hb1 hm HD
  go_wp2_with fail
  go_loopg [7, 8, 9] m (fun q v dv iv wr => ∃ (j : Nat) (dn : Bool) (A' : Option Addr) (n' c' : Nat) (O : Disk.Fo), q = m - j ∧ j ≤ m ∧ iv = .int .i64 j ∧ dv = .bool dn ∧ v = .slice A' n' c' ∧ n' ≤ j + (if dn = true then 1 else 0) ∧ n' ≤ c' ∧ c' ≤ 9223372036854775807 ∧ Hid (n' = O.length) ∧ Hid (Own Rep.ent 116 wr w1.heap.size nob (.slice A' n' c') O) ∧ Hid (O ++ (if dn = true then L.drop j else Disk.ins K i (L.drop j)) = Disk.ins K i L) ∧ Hid (Below w1.heap.size w1 wr))
  case atStart => exact ⟨0, false, none, 0, 0, [], rfl, by omega, rfl, rfl, rfl, by omega, Nat.le_refl _, by omega, Lib.hid rfl, Lib.hid (Own.nil _ _ _ _), Lib.hid (by simp), Lib.hid (Below.refl _ _)⟩
  case round =>
    obtain ⟨j, dn, A', n', c', O, rfl, hj, rfl, rfl, rfl, hnj, hnc', hcm', HN', HV, HO, HB⟩ := hrel
    have hnj2 : n' ≤ j + 1 := by split at hnj <;> omega
    by_cases hjm : j < m
    · have hjl : j < L.length := by rw [← HM.out]; exact hjm
      obtain ⟨g, o, rfl, hg, k0, k1, hk1, hk2⟩ := (HL1.out.keep (S' := under w1.heap.size) (fun _ h => h) (Same.of_below HB.out fun _ h => h)).ent hjl
      obtain ⟨h1, h2, h3⟩ := ins_go hjl HO.out
      obtain ⟨p, hp⟩ : ∃ p, p = L[j] := ⟨_, rfl⟩
      rw [← hp] at k0 k1 hk1 hk2 h1 h2 h3
      obtain ⟨k, q⟩ := p
      simp only at k0 k1 hk1 hk2 h2 h3
      obtain ⟨x, hx⟩ : ∃ x : ByteArray, x = ⟨k.toArray⟩ := ⟨_, rfl⟩
      rw [← hx] at k0
      have HX : Hid (x.data.toList = k) := Lib.hid (by rw [hx])
      have HSX : Hid (Value.string x = sv k) := Lib.hid (congrArg Value.string hx)
      obtain ⟨hg1, hg2⟩ := gtr_bytes HX.out HK.out.symm
      have HG := Lib.hid hg
      clear hp hx hg
      cases dn
      · by_cases hlt : K < k
        · have HN2 := Lib.hid (h2 rfl hlt)
          obtain ⟨hl1, hl2⟩ := hg1 hlt
          simp only [Bool.false_eq_true, if_false] at hnj
          clear h1 h2 h3 hlt hg1 hg2
          go_wp2_with (first
            | (at_builtin; refine wpList_append_Own _ rfl (.tmp 30) (.tmp 34) 89 rfl Rep.ent w1.heap.size 116 24 stEnt nob (.slice A' n' c') O rfl (HV.out.alloc _) _ _ _ [(K, i)] rfl (SliceAt.new1 Rep.ent _ _ _ (K, i) nob ⟨by rw [← HSV.out], hKl.out, hib⟩ (fun _ h => h.elim)) nob (fun _ h => h.elim) (fun _ h => h) (fun _ _ h => h) (by have := HN'.out; simp <;> omega) (by have := HN'.out; simp <;> omega) (by have := HB.out.size; simp <;> omega) ?_; intro v' w2 hown hg hat; obtain ⟨A2, n2, c2, rfl, hn2, hnc2, hcm2⟩ := hown.form; have HO2 := Lib.hid hown; have HB2 := Lib.hid (below_own (HB.out.alloc HB.out.size _) (HV.out.alloc _) hg (by have := HB.out.size; simp; omega)); clear hown hg hat; have hn2' : n2 ≤ j + 1 := (by have h1 := hn2.out; have h2 := HN'.out; rw [List.length_append, List.length_singleton] at h1; omega); have k02 := (HB2.out.cell (p := ⟨g, o + j * 2, none⟩) HG.out).trans ((HB.out.cell (p := ⟨g, o + j * 2, none⟩) HG.out).symm.trans k0); have k12 := (HB2.out.cell (p := ⟨g, o + j * 2 + 1, none⟩) HG.out).trans ((HB.out.cell (p := ⟨g, o + j * 2 + 1, none⟩) HG.out).symm.trans k1); clear k0 k1)
            | (at_builtin; refine wpList_append_Own _ rfl (.tmp 36) (.tmp 41) 89 rfl Rep.ent w1.heap.size 116 24 stEnt nob (.slice A2 n2 c2) (O ++ [(K, i)]) rfl (HO2.out.alloc _) _ _ _ [(k, q)] rfl (SliceAt.new1 Rep.ent _ _ _ (k, q) nob ⟨by rw [← HSX.out], hk1, hk2⟩ (fun _ h => h.elim)) nob (fun _ h => h.elim) (fun _ h => h) (fun _ _ h => h) (by have h1 := hn2.out; rw [List.length_append, List.length_singleton] at h1; simp <;> omega) (by have h1 := hn2.out; rw [List.length_append, List.length_singleton] at h1; simp <;> omega) (by have := HB2.out.size; simp <;> omega) ?_; intro v' w3 hown hg hat; obtain ⟨A3, n3, c3, rfl, hn3, hnc3, hcm3⟩ := hown.form; have HO3 := Lib.hid hown; have HB3 := Lib.hid (below_own (HB2.out.alloc HB2.out.size _) (HO2.out.alloc _) hg (by have := HB2.out.size; simp; omega)); clear hown hg hat))
          have hn2b : n2 ≤ j + 1 := by omega
          have hn3' : n3 ≤ j + 1 + 1 := by have h1 := hn3.out; have h2 := hn2.out; rw [List.length_append, List.length_singleton] at h1; omega
          go_roundg (m - (j + 1))
          case measure => omega
          case rel => exact ⟨j + 1, true, A3, n3, c3, _, rfl, by omega, by go_num, rfl, rfl, hn3', hnc3, hcm3, hn3, HO3, Lib.hid (by rw [if_pos rfl]; exact HN2.out), HB3⟩
        · have HN2 := Lib.hid (h3 rfl hlt)
          have hg3 := hg2 hlt
          simp only [Bool.false_eq_true, if_false] at hnj
          clear h1 h2 h3 hlt hg1 hg2
          rcases hg3 with hl1 | ⟨hl1, hl2⟩
          all_goals
            go_wp2_with (at_builtin; refine wpList_append_Own _ rfl (.tmp 36) (.tmp 41) 89 rfl Rep.ent w1.heap.size 116 24 stEnt nob (.slice A' n' c') O rfl (HV.out.alloc _) _ _ _ [(k, q)] rfl (SliceAt.new1 Rep.ent _ _ _ (k, q) nob ⟨by rw [← HSX.out], hk1, hk2⟩ (fun _ h => h.elim)) nob (fun _ h => h.elim) (fun _ h => h) (fun _ _ h => h) (by have := HN'.out; simp <;> omega) (by have := HN'.out; simp <;> omega) (by have := HB.out.size; simp <;> omega) ?_; intro v' w3 hown hg hat; obtain ⟨A3, n3, c3, rfl, hn3, hnc3, hcm3⟩ := hown.form; have HO3 := Lib.hid hown; have HB3 := Lib.hid (below_own (HB.out.alloc HB.out.size _) (HV.out.alloc _) hg (by have := HB.out.size; simp; omega)); clear hown hg hat)
            have hn3' : n3 ≤ j + 1 := by have h1 := hn3.out; have h2 := HN'.out; rw [List.length_append, List.length_singleton] at h1; omega
            go_roundg (m - (j + 1))
            case measure => omega
            case rel => exact ⟨j + 1, false, A3, n3, c3, _, rfl, by omega, by go_num, rfl, rfl, by simpa using hn3', hnc3, hcm3, hn3, HO3, Lib.hid (by rw [if_neg (by simp)]; exact HN2.out), HB3⟩
      · have HN2 := Lib.hid (h1 rfl)
        simp only [if_true] at hnj
        clear h1 h2 h3 hg1 hg2
        go_wp2_with (at_builtin; refine wpList_append_Own _ rfl (.tmp 36) (.tmp 41) 89 rfl Rep.ent w1.heap.size 116 24 stEnt nob (.slice A' n' c') O rfl (HV.out.alloc _) _ _ _ [(k, q)] rfl (SliceAt.new1 Rep.ent _ _ _ (k, q) nob ⟨by rw [← HSX.out], hk1, hk2⟩ (fun _ h => h.elim)) nob (fun _ h => h.elim) (fun _ h => h) (fun _ _ h => h) (by have := HN'.out; simp <;> omega) (by have := HN'.out; simp <;> omega) (by have := HB.out.size; simp <;> omega) ?_; intro v' w3 hown hg hat; obtain ⟨A3, n3, c3, rfl, hn3, hnc3, hcm3⟩ := hown.form; have HO3 := Lib.hid hown; have HB3 := Lib.hid (below_own (HB.out.alloc HB.out.size _) (HV.out.alloc _) hg (by have := HB.out.size; simp; omega)); clear hown hg hat)
        have hn3' : n3 ≤ j + 1 + 1 := by have h1 := hn3.out; have h2 := HN'.out; rw [List.length_append, List.length_singleton] at h1; omega
        go_roundg (m - (j + 1))
        case measure => omega
        case rel => exact ⟨j + 1, true, A3, n3, c3, _, rfl, by omega, by go_num, rfl, rfl, by simpa using hn3', hnc3, hcm3, hn3, HO3, Lib.hid (by rw [if_pos rfl]; exact HN2.out), HB3⟩
    · obtain rfl : j = m := by omega
      have hdrop : L.drop j = [] := List.drop_eq_nil_of_le (by rw [← HM.out]; exact Nat.le_refl _)
      cases dn
      · have HF : Hid (O ++ [(K, i)] = Disk.ins K i L) := Lib.hid (by have h := HO.out; rw [hdrop] at h; simpa [Disk.ins] using h)
        simp only [Bool.false_eq_true, if_false] at hnj
        clear hdrop
        go_wp2_with (at_builtin; refine wpList_append_Own _ rfl (.tmp 45) (.tmp 49) 89 rfl Rep.ent w1.heap.size 116 24 stEnt nob (.slice A' n' c') O rfl (HV.out.alloc _) _ _ _ [(K, i)] rfl (SliceAt.new1 Rep.ent _ _ _ (K, i) nob ⟨by rw [← HSV.out], hKl.out, hib⟩ (fun _ h => h.elim)) nob (fun _ h => h.elim) (fun _ h => h) (fun _ _ h => h) (by have := HN'.out; simp <;> omega) (by have := HN'.out; simp <;> omega) (by have := HB.out.size; simp <;> omega) ?_; intro v' w2 hown hg hat; obtain ⟨A2, n2, c2, rfl, hn2, hnc2, hcm2⟩ := hown.form; have HO2 := Lib.hid hown; have HB2 := Lib.hid (below_own (HB.out.alloc HB.out.size _) (HV.out.alloc _) hg (by have := HB.out.size; simp; omega)); clear hown hg hat)
        go_ret
        have hn2' : n2 ≤ n + 1 := by have h1 := hn2.out; have h2 := HN'.out; rw [List.length_append, List.length_singleton] at h1; omega
        exact ⟨A2, n2, c2, rfl, by rw [← HF.out]; exact hn2, hn2', hnc2, hcm2, by rw [← HF.out]; exact HO2.out.low HB1.out.size, HB1.out.trans (HB2.out.mono HB1.out.size)⟩
      · have HF : Hid (O = Disk.ins K i L) := Lib.hid (by have h := HO.out; rw [hdrop] at h; simpa using h)
        simp only [if_true] at hnj
        clear hdrop
        go_wp2_with fail
        go_ret
        exact ⟨A', n', c', rfl, by rw [← HF.out]; exact HN', by omega, hnc', hcm', by rw [← HF.out]; exact HV.out.low HB1.out.size, HB1.out.trans (HB.out.mono HB1.out.size)⟩
end
end Go.Proofs.YtncpeogkccjmcaaGreatDoor
namespace Go.Proofs.YtncpeogkccjmcaaGreatDoor
open Go.RowKit Go.ChangeShapes Go.WideShapes Go.Deep

/-- Rows of bytes of the call's own, side by side. -/
structure RowsV (w : World) (base : Nat) (l : List (Value × List UInt8)) : Prop where
  own : ∀ x ∈ l, Own Rep.byte 5 w base nob x.1 x.2
  apart : l.Pairwise fun x y => ∀ b, x.1.ownBlock = some b → y.1.ownBlock ≠ some b
section
variable {w w' : World} {base : Nat} {l : List (Value × List UInt8)}
theorem RowsV.nil (w : World) (base : Nat) : RowsV w base [] := ⟨fun _ h => absurd h (by simp), List.Pairwise.nil⟩
theorem RowsV.far (h : RowsV w base l) (hb : Below w.heap.size w w') : RowsV w' base l := ⟨fun x hx => (h.own x hx).far hb, h.apart⟩
theorem RowsV.only {F : Blocks} (h : RowsV w base l) (ho : Only F w w') (hF : ∀ x ∈ l, ∀ b, x.1.ownBlock = some b → ¬ F b) : RowsV w' base l := ⟨fun x hx => (h.own x hx).only ho (hF x hx), h.apart⟩
theorem RowsV.lt (h : RowsV w base l) : ∀ x ∈ l, ∀ b, x.1.ownBlock = some b → base ≤ b ∧ b < w.heap.size := fun x hx _ hb => (h.own x hx).block_lt hb
theorem RowsV.ne (h : RowsV w base l) {g : Nat} {cs : Array Value} {t : TypeId} {fr : Nat × Nat} (hg : w.heap[g]? = some (.cells cs t fr)) (hne : 5 ≠ t) : ∀ x ∈ l, x.1.ownBlock ≠ some g := fun x hx => (h.own x hx).ne_block hg hne
theorem RowsV.snoc {B2 : Nat} {x : Value × List UInt8} (h : RowsV w base l) (hx : Own Rep.byte 5 w B2 nob x.1 x.2) (hB : base ≤ B2) (hl : ∀ y ∈ l, ∀ b, y.1.ownBlock = some b → b < B2) : RowsV w base (l ++ [x]) := by
  refine ⟨fun y hy => ?_, ?_⟩
  · rcases List.mem_append.1 hy with hy | hy
    · exact h.own y hy
    · rw [List.mem_singleton.1 hy]; exact hx.low hB
  · rw [List.pairwise_append]
    refine ⟨h.apart, by simp, fun y hy z hz b hb e => ?_⟩
    rw [List.mem_singleton.1 hz] at e
    have := hl y hy b hb
    have := (hx.block_lt e).1
    omega
end

/-- A file of the document's disk; the value of its bytes beside it. -/
abbrev TN := Disk.Nd × Value
def Rep.nodeV : Rep TN where
  n := 3
  is := fun _ _ cs x => cs = [x.2, .int .i64 x.1.syn, .bool x.1.bad] ∧ x.1.syn ≤ 1099511627776 ∧ x.2.oneCell' = true
  size := by rintro _ _ _ _ ⟨rfl, _⟩; rfl
  keep := by rintro _ _ _ _ _ _ ⟨rfl, h⟩ _ _; exact ⟨rfl, h⟩
  one := by rintro _ _ _ x ⟨rfl, _, h⟩; simp [Value.oneCell']; exact h
theorem stNode : SliceType Tryz.prog 88 95 3 40 := SliceType.mk' (z := .agg #[.slice none 0 0, .int .i64 0, .bool false]) Tryz.underlying88 (by kernel_rfl) rfl (by omega)
def Rep.rchg : Rep Disk.Chg where
  n := 3
  is := fun _ _ cs c => cs = [sv c.src, sv c.dst, .int .i64 c.id] ∧ c.src.length ≤ maxLen ∧ c.dst.length ≤ maxLen ∧ c.id ≤ 1125899906842624
  size := by rintro _ _ _ _ ⟨rfl, _⟩; rfl
  keep := by rintro _ _ _ _ _ _ ⟨rfl, h⟩ _ _; exact ⟨rfl, h⟩
  one := by rintro _ _ _ _ ⟨rfl, _⟩; simp [Value.oneCell', sv]

/-- A block of entries, new since base. -/
def EntB (w : World) (base : Nat) : Blocks := fun b => base ≤ b ∧ ∃ cs f, w.heap[b]? = some (.cells cs 116 f)
/-- A folder of the document. -/
def EntAt (w : World) (base : Nat) (v : Value) (l : Disk.Fo) : Prop := ∃ A c, v = .slice A l.length c ∧ SliceAt Rep.ent w (EntB w base) A c l
section
variable {w w' : World} {base : Nat} {v : Value} {l : Disk.Fo}
theorem EntAt.same (h : EntAt w base v l) (hk : ∀ b, EntB w base b → w'.heap[b]? = w.heap[b]?) : EntAt w' base v l := by
  obtain ⟨A, c, e, hs⟩ := h
  exact ⟨A, c, e, hs.keep (fun b hb => ⟨hb.1, by obtain ⟨cs, f, h⟩ := hb.2; exact ⟨cs, f, (hk b hb).trans h⟩⟩) hk⟩
theorem EntB.lt {b : Nat} (h : EntB w base b) : b < w.heap.size := by
  obtain ⟨-, cs, f, h⟩ := h
  exact (Array.getElem?_eq_some_iff.1 h).1
theorem EntB.ne {b g : Nat} (h : EntB w base b) {cs : Array Value} {t : TypeId} {fr : Nat × Nat} (hg : w.heap[g]? = some (.cells cs t fr)) (hne : 116 ≠ t) : b ≠ g := by
  rintro rfl
  obtain ⟨-, cs', f, h⟩ := h
  rw [h] at hg
  injection hg with hg
  injection hg with _ ht
  exact hne ht
theorem EntAt.far (h : EntAt w base v l) (hb : Below w.heap.size w w') : EntAt w' base v l := h.same fun b h => hb.block b h.lt
theorem EntAt.only {F : Blocks} (h : EntAt w base v l) (ho : Only F w w') (hF : ∀ b, EntB w base b → ¬ F b) : EntAt w' base v l := h.same fun b hb => ho.block b hb.lt (hF b hb)
theorem EntAt.nil (w : World) (base : Nat) : EntAt w base (.slice none 0 0) [] := ⟨none, 0, rfl, SliceAt.nil _ _ _⟩
theorem EntAt.of_own {B2 : Nat} (h : Own Rep.ent 116 w B2 nob v l) (hB : base ≤ B2) : EntAt w base v l := by
  obtain ⟨A, c, rfl, hs⟩ := h.slice
  refine ⟨A, c, rfl, hs.up fun b hb => ?_⟩
  rcases hb with ⟨h1, -, h3⟩ | h0
  · obtain ⟨cur, hc⟩ := h.content h3.symm
    exact ⟨Nat.le_trans hB h1, cur, _, hc⟩
  · exact h0.elim
end

/-- The document's disk: its block, its files' row, its folders, its changes, what is planned. -/
structure RefB (w : World) (base d : Nat) (s : Disk.St) (av nv ov rv pv : Value) (vs : List TN) : Prop where
  hd : w.heap[d]? = some (.cells #[.int .i64 s.room, .bool s.on, av, nv, ov, rv, pv, .int .i64 s.tries, .int .i64 s.done] 92 (0, 0))
  low : base ≤ d
  all : Own Rep.nodeV 95 w base nob av vs
  is_ : vs.map (·.1) = s.all
  rows : RowsV w base (vs.map fun x => (x.2, x.1.bytes))
  now : EntAt w base nv s.now
  old : EntAt w base ov s.old
  row : Own Rep.rchg 129 w base nob rv s.row
  plan : Own Rep.fault 123 w base nob pv s.plan
def RefAt (w : World) (base d : Nat) (s : Disk.St) : Prop := ∃ av nv ov rv pv vs, RefB w base d s av nv ov rv pv vs
section
variable {w w' : World} {base d : Nat} {s : Disk.St} {av nv ov rv pv : Value} {vs : List TN}
theorem RefB.far (h : RefB w base d s av nv ov rv pv vs) (hb : Below w.heap.size w w') : RefB w' base d s av nv ov rv pv vs :=
  ⟨(hb.block d (Array.getElem?_eq_some_iff.1 h.hd).1).trans h.hd, h.low, h.all.far hb, h.is_, h.rows.far hb, h.now.far hb, h.old.far hb, h.row.far hb, h.plan.far hb⟩
theorem RefAt.far (h : RefAt w base d s) (hb : Below w.heap.size w w') : RefAt w' base d s := by
  obtain ⟨av, nv, ov, rv, pv, vs, h⟩ := h
  exact ⟨_, _, _, _, _, _, h.far hb⟩
/-- .. while nothing of the heap behind base turns. -/
theorem RefB.only {F : Blocks} (h : RefB w base d s av nv ov rv pv vs) (ho : Only F w w') (hF : ∀ b, F b → b < base) : RefB w' base d s av nv ov rv pv vs :=
  ⟨(ho.block d (Array.getElem?_eq_some_iff.1 h.hd).1 fun h1 => by have := hF _ h1; have := h.low; omega).trans h.hd, h.low, h.all.only ho fun b hb h1 => (by have := hF _ h1; have := (h.all.block_lt hb).1; omega), h.is_,
    h.rows.only ho fun x hx b hb h1 => (by have := hF _ h1; have := (h.rows.lt x hx b hb).1; omega), h.now.only ho fun b hb h1 => (by have := hF _ h1; have := hb.1; omega), h.old.only ho fun b hb h1 => (by have := hF _ h1; have := hb.1; omega),
    h.row.only ho fun b hb h1 => (by have := hF _ h1; have := (h.row.block_lt hb).1; omega), h.plan.only ho fun b hb h1 => (by have := hF _ h1; have := (h.plan.block_lt hb).1; omega)⟩
end
end Go.Proofs.YtncpeogkccjmcaaGreatDoor
namespace Go.Proofs.YtncpeogkccjmcaaGreatDoor
open Go.RowKit Go.ChangeShapes Go.WideShapes Go.Deep
def badC (b : UInt8) : Bool := b == 0 || b == 10 || b == 47
theorem isName_bad {l : List UInt8} {j : Nat} (hj : j < l.length) (h : badC l[j] = true) : Disk.isName l = false := by
  have : (l.any fun b => b == 0 || b == 10 || b == 47) = true := List.any_eq_true.2 ⟨l[j], List.getElem_mem hj, h⟩
  unfold Disk.isName
  rw [this]
  simp
theorem isName_len {l : List UInt8} (h : ∀ j (hj : j < l.length), badC l[j] = false) : Disk.isName l = (decide (1 ≤ l.length) && decide (l.length ≤ 64)) := by
  have : (l.any fun b => b == 0 || b == 10 || b == 47) = false := by
    rw [List.any_eq_false]
    intro b hb
    obtain ⟨j, hj, rfl⟩ := List.getElem_of_mem hb
    have := h j hj
    unfold badC at this
    simpa using this
  unfold Disk.isName
  rw [this]
  simp
theorem str_at {s : ByteArray} {l : List UInt8} (h : l = s.data.toList) {j : Nat} (hj : j < s.size) (hl : j < l.length) : s[j] = l[j] := by
  subst h
  simp [ByteArray.getElem_eq_getElem_data]
theorem u8_0 {b : UInt8} (h : ¬ b = 0) : ((b.toNat : Int) == 0) = false := by
  rw [beq_eq_false_iff_ne]; intro e; apply h; apply UInt8.toNat_inj.1; show b.toNat = 0; omega
theorem u8_10 {b : UInt8} (h : ¬ b = 10) : ((b.toNat : Int) == 10) = false := by
  rw [beq_eq_false_iff_ne]; intro e; apply h; apply UInt8.toNat_inj.1; show b.toNat = 10; omega
theorem u8_47 {b : UInt8} (h : ¬ b = 47) : ((b.toNat : Int) == 47) = false := by
  rw [beq_eq_false_iff_ne]; intro e; apply h; apply UInt8.toNat_inj.1; show b.toNat = 47; omega
set_option maxRecDepth 100000 in
set_option maxHeartbeats 1000000 in
theorem refName_any (s : ByteArray) (hs : s.size ≤ maxLen) (w : World) : Calls Tryz.prog 24 #[.string s] w fun e w' => e = .returned (.bool (Disk.isName s.data.toList)) ∧ w' = w := by
  have hm : s.size ≤ 9223372036854775807 := by simpa [maxLen] using hs
  have HL : Hid (s.data.toList.length = s.size) := Lib.hid (by rw [Array.length_toList]; rfl)
  go_enter Tryz.func24, Tryz.ntmps24
  go_wp2_with fail
  go_loopg [3] s.size (fun q i wr => ∃ j : Nat, q = s.size - j ∧ j ≤ s.size ∧ i = .int .i64 j ∧ Hid (wr = w) ∧ Hid (∀ k (hk : k < s.data.toList.length), k < j → badC s.data.toList[k] = false))
  case atStart => exact ⟨0, rfl, by omega, rfl, Lib.hid rfl, Lib.hid fun k _ h => absurd h (Nat.not_lt_zero k)⟩
  case round =>
    obtain ⟨j, rfl, hj, rfl, HW, HB⟩ := hrel
    by_cases hjn : j < s.size
    · have hjl : j < s.data.toList.length := by rw [HL.out]; exact hjn
      obtain ⟨b, hb⟩ : ∃ b, b = s.data.toList[j] := ⟨_, rfl⟩
      have hsb : s[j] = b := by rw [hb]; exact str_at rfl hjn hjl
      by_cases h0 : b = 0
      · subst h0
        have HN : Hid (Disk.isName s.data.toList = false) := Lib.hid (isName_bad hjl (by rw [← hb]; rfl))
        clear hb
        go_wp2_with fail
        go_ret
        exact ⟨by rw [HN.out]; rfl, HW.out⟩
      · by_cases h1 : b = 10
        · subst h1
          have HN : Hid (Disk.isName s.data.toList = false) := Lib.hid (isName_bad hjl (by rw [← hb]; rfl))
          clear hb
          go_wp2_with fail
          go_ret
          exact ⟨by rw [HN.out]; rfl, HW.out⟩
        · by_cases h2 : b = 47
          · subst h2
            have HN : Hid (Disk.isName s.data.toList = false) := Lib.hid (isName_bad hjl (by rw [← hb]; rfl))
            clear hb
            go_wp2_with fail
            go_ret
            exact ⟨by rw [HN.out]; rfl, HW.out⟩
          · have e0 := u8_0 h0
            have e1 := u8_10 h1
            have e2 := u8_47 h2
            have HBN : Hid (∀ k (hk : k < s.data.toList.length), k < j + 1 → badC s.data.toList[k] = false) := Lib.hid fun k hk hkj => by
              by_cases e : k = j
              · subst e
                rw [← hb]
                unfold badC
                simp [h0, h1, h2]
              · exact HB.out k hk (by omega)
            clear hb h0 h1 h2
            go_wp2_with fail
            go_roundg (s.size - (j + 1))
            case measure => omega
            case rel => exact ⟨j + 1, rfl, by omega, by go_num, HW, HBN⟩
    · have HN : Hid (Disk.isName s.data.toList = (decide (1 ≤ s.size) && decide (s.size ≤ 64))) := Lib.hid (by
        rw [isName_len fun k hk => HB.out k hk (by rw [HL.out] at hk; omega), HL.out])
      obtain rfl : j = s.size := by omega
      by_cases hp : 1 ≤ s.size
      · by_cases hq : s.size ≤ 64
        · have HQ : Hid (Disk.isName s.data.toList = true) := Lib.hid (by rw [HN.out]; simp [hp, hq])
          have hd : decide ((s.size : Int) ≤ 64) = true := decide_eq_true (by omega)
          go_wp2_with fail
          go_ret
          exact ⟨by rw [HQ.out]; rfl, HW.out⟩
        · have HQ : Hid (Disk.isName s.data.toList = false) := Lib.hid (by rw [HN.out]; simp [hq])
          have hd : decide ((s.size : Int) ≤ 64) = false := decide_eq_false (by omega)
          go_wp2_with fail
          go_ret
          exact ⟨by rw [HQ.out]; rfl, HW.out⟩
      · have HQ : Hid (Disk.isName s.data.toList = false) := Lib.hid (by rw [HN.out]; simp [hp])
        go_wp2_with fail
        go_ret
        exact ⟨by rw [HQ.out]; rfl, HW.out⟩
end Go.Proofs.YtncpeogkccjmcaaGreatDoor
namespace Go.Proofs.YtncpeogkccjmcaaGreatDoor
open Go.RowKit Go.ChangeShapes Go.WideShapes Go.Deep

section
variable {w : World}
theorem copied_any (A : Option Addr) (n c : Nat) (l : List UInt8) (w : World) (S : Blocks) (hn : Hid (n = l.length)) (hl : Hid (SliceAt Rep.byte w S A c l)) (hb : n ≤ 140737488355328) :
    Calls Tryz.prog 26 #[.slice A n c] w fun e w' => ∃ v, e = .returned v ∧ Own Rep.byte 5 w' w.heap.size nob v l ∧ Below w.heap.size w w' := by
  go_enter Tryz.func26, Tryz.ntmps26
  go_wp2_with (at_builtin; refine wpList_append_bytes _ rfl (.tmp 4) (.tmp 5) 67 rfl w.heap.size 5 stBytes _ [] rfl (Own.nil _ _ _ _) _ _ _ _ _ rfl hl.out hn.out.symm (by simp; omega) (Nat.le_refl _) ?_; intro v1 w1 hown1 hg1 hat1)
  go_ret
  exact ⟨_, rfl, by simpa using hown1, below_own (Below.refl _ _) (Own.nil Rep.byte 5 _ _) hg1 (Nat.le_refl _)⟩

/-- What From of the document leaves. -/
def RefFromPost (w : World) (room : Int) (fs : List Disk.Fin_) (e : Ending) (w' : World) : Prop :=
  (Disk.fromErr room fs ≠ 0 ∧ e = .returned (.tuple #[.pointer none, .int .i64 (Disk.fromErr room fs)]) ∧ Below w.heap.size w w') ∨
    (Disk.fromErr room fs = 0 ∧ ∃ d, e = .returned (.tuple #[.pointer (some ⟨d, 0, none⟩), .int .i64 0]) ∧ RefAt w' w.heap.size d (Disk.fromSt room fs) ∧ Below w.heap.size w w')
theorem refFrom_bad {w w' : World} {room : Int} {fs : List Disk.Fin_} {q : Int} (h : Disk.fromErr room fs = q) (h0 : q ≠ 0) (hb : Below w.heap.size w w') : RefFromPost w room fs (.returned (.tuple #[.pointer none, .int .i64 q])) w' :=
  .inl ⟨by rw [h]; exact h0, by rw [h], hb⟩
theorem total_snoc {fs : List Disk.Fin_} {j : Nat} (hj : j < fs.length) : Disk.total (fs.take (j + 1)) = Disk.total (fs.take j) + (fs[j]).bytes.length := by
  unfold Disk.total
  rw [List.take_succ_eq_append_getElem hj, List.map_append, List.sum_append]
  simp only [List.map_cons, List.map_nil, List.sum_cons, List.sum_nil, Nat.add_zero]
/-- The disk that is being made: fa: those whose files stand in its row, fn: those whose names stand in its folder. -/
structure RefMaking (w0 w : World) (room : Int) (fa fn : List Disk.Fin_) (d : Nat) (av nv : Value) (vs : List TN) : Prop where
  hd : w.heap[d]? = some (.cells #[.int .i64 room, .bool true, av, nv, .slice none 0 0, .slice none 0 0, .slice none 0 0, .int .i64 0, .int .i64 0] 92 (0, 0))
  low : w0.heap.size ≤ d
  all : Own Rep.nodeV 95 w w0.heap.size nob av vs
  is_ : vs.map (·.1) = fa.map Disk.Fin_.nd
  rows : RowsV w w0.heap.size (vs.map fun x => (x.2, x.1.bytes))
  now : EntAt w w0.heap.size nv (Disk.nowOf fn)
  below : Below w0.heap.size w0 w
section
variable {w0 w w' w3 : World} {room : Int} {fa fn fa' fn' : List Disk.Fin_} {d : Nat} {av nv : Value} {vs vs' : List TN}
theorem RefMaking.lt (h : RefMaking w0 w room fa fn d av nv vs) : d < w.heap.size := (Array.getElem?_eq_some_iff.1 h.hd).1
theorem RefMaking.far (h : RefMaking w0 w room fa fn d av nv vs) (hb : Below w.heap.size w w') : RefMaking w0 w' room fa fn d av nv vs :=
  ⟨(hb.block d h.lt).trans h.hd, h.low, h.all.far hb, h.is_, h.rows.far hb, h.now.far hb, h.below.trans (hb.mono h.below.size)⟩
/-- A cell of its block written over. -/
theorem RefMaking.set {k : Nat} {u av' nv' : Value} (hd : w.heap[d]? = some (.cells #[.int .i64 room, .bool true, av, nv, .slice none 0 0, .slice none 0 0, .slice none 0 0, .int .i64 0, .int .i64 0] 92 (0, 0)))
    (hlow : w0.heap.size ≤ d) (hb : Below w0.heap.size w0 w)
    (hc : (#[.int .i64 room, .bool true, av, nv, .slice none 0 0, .slice none 0 0, .slice none 0 0, .int .i64 0, .int .i64 0] : Array Value).setIfInBounds k u = #[.int .i64 room, .bool true, av', nv', .slice none 0 0, .slice none 0 0, .slice none 0 0, .int .i64 0, .int .i64 0])
    (ha : Own Rep.nodeV 95 w w0.heap.size nob av' vs') (hi : vs'.map (·.1) = fa'.map Disk.Fin_.nd) (hr : RowsV w w0.heap.size (vs'.map fun x => (x.2, x.1.bytes))) (hn : EntAt w w0.heap.size nv' (Disk.nowOf fn')) : RefMaking w0 (w.setCell ⟨d, k, none⟩ u) room fa' fn' d av' nv' vs' := by
  have hdl : d < w.heap.size := (Array.getElem?_eq_some_iff.1 hd).1
  have ho : Only (fun b => b = d) w (w.setCell ⟨d, k, none⟩ u) := (Only.refl (fun b => b = d) w).setCell (p := ⟨d, k, none⟩) (.inl rfl) u
  refine ⟨?_, hlow, ha.only ho fun b hb e => ?_, hi, hr.only ho fun x hx b hb e => ?_, hn.only ho fun b hb => hb.ne hd (by decide), hb.trans (ho.below hb.size fun b hb => by rw [hb]; exact hlow)⟩
  · simp only [World.setCell, Array.getElem?_modify, if_true, hd, Option.map_some]
    simpa using hc
  · subst e; exact ha.ne_block hd (by decide) hb
  · subst e; exact hr.ne hd (by decide) x hx hb
/-- One name more. -/
theorem RefMaking.name (h : RefMaking w0 w room fa fn d av nv vs) (hb : Below w.heap.size w w') {v : Value} {k : Disk.Nm} {i : Nat} (hv : Own Rep.ent 116 w' w.heap.size nob v (Disk.put (Disk.nowOf fn) k i)) (he : Disk.put (Disk.nowOf fn) k i = Disk.nowOf fn') :
    RefMaking w0 (w'.setCell ⟨d, 3, none⟩ v) room fa fn' d av v vs := by
  have h' := h.far hb
  exact RefMaking.set h'.hd h'.low h'.below rfl h'.all h'.is_ h'.rows (EntAt.of_own (by rw [← he]; exact hv) h.below.size)
/-- One file more. -/
theorem RefMaking.file (h : RefMaking w0 w room fa fn d av nv vs) (hb : Below w.heap.size w w') {v v3 : Value} {f : Disk.Fin_} {nd : Disk.Nd} (hnd : nd = f.nd) (hv : Own Rep.byte 5 w' w.heap.size nob v nd.bytes) (ob : Obj) (hg : (w'.alloc ob).grownBy w3 av.ownBlock) (h3 : Own Rep.nodeV 95 w3 w0.heap.size nob v3 (vs ++ [(nd, v)])) :
    RefMaking w0 (w3.setCell ⟨d, 2, none⟩ v3) room (fa ++ [f]) fn d v3 nv (vs ++ [(nd, v)]) ∧ w3.cell? ⟨d, 2, none⟩ = some av ∧ w3.frozen? ⟨d, 2, none⟩ = false ∧ Below w0.heap.size w0 w3 := by
  have hba : Below w.heap.size w (w'.alloc ob) := hb.alloc hb.size ob
  have h' := h.far hba
  have hbd : Below w'.heap.size w' (w'.alloc ob) := (Below.refl w'.heap.size w').alloc (Nat.le_refl _) ob
  have ho : Only (fun b => av.ownBlock = some b) (w'.alloc ob) w3 := Only.of_grown hg _ fun b hb => hb.symm
  have hd3 : w3.heap[d]? = _ := (ho.block d h'.lt fun e => h'.all.ne_block h'.hd (by decide) e).trans h'.hd
  have hnot : ∀ {b : Nat}, av.ownBlock = some b → ∃ cur, (w'.alloc ob).heap[b]? = some (.cells cur 95 (0, 0)) := fun hb => h'.all.content hb
  have hrow : RowsV (w'.alloc ob) w0.heap.size ((vs ++ [(nd, v)]).map fun x => (x.2, x.1.bytes)) := by
    rw [List.map_append]
    exact h'.rows.snoc (x := (v, nd.bytes)) (hv.far hbd) h.below.size fun y hy b hb => (h.rows.lt y hy b hb).2
  refine ⟨RefMaking.set hd3 h'.low (h'.below.trans (ho.below h'.below.size fun b hb => (h'.all.block_lt hb).1)) rfl h3 (by rw [List.map_append, h.is_, List.map_append, hnd]; rfl) (hrow.only ho fun x hx b hb e => ?_) (h'.now.only ho fun b hb e => ?_), ?_, ?_, h'.below.trans (ho.below h'.below.size fun b hb => (h'.all.block_lt hb).1)⟩
  · obtain ⟨cur, hc⟩ := hnot e
    exact hrow.ne hc (by decide) x hx hb
  · obtain ⟨cur, hc⟩ := hnot e
    exact hb.ne hc (by decide) rfl
  · exact (cell_of_row w3 d 2 _ _ (0, 0) hd3).trans rfl
  · simp [World.frozen?, hd3]
end
theorem enters_put : ∀ args w, (callFunc 25 args).run Tryz.prog w = .ok (.enter 25 args) w := enters_of Tryz.func25 (by kernel_rfl) rfl
theorem enters_copied : ∀ args w, (callFunc 26 args).run Tryz.prog w = .ok (.enter 26 args) w := enters_of Tryz.func26 (by kernel_rfl) rfl
theorem okF_iff {a : List Disk.Fin_} {f : Disk.Fin_} (h1 : Disk.isName f.name = true) (h2 : 0 ≤ f.syn) (h3 : f.syn ≤ f.bytes.length) (h4 : ∀ g ∈ a, g.name ≠ f.name) : Disk.okF a f = true := by
  unfold Disk.okF
  have : (a.any fun g => g.name == f.name) = false := by
    rw [List.any_eq_false]
    intro g hg
    simpa using h4 g hg
  rw [this, h1]
  simp [h2, h3]
set_option maxRecDepth 100000 in
set_option maxHeartbeats 8000000 in
set_option linter.unusedSimpArgs false in
theorem refFrom_any (room : Int) (A : Option Addr) (n c : Nat) (fs : List Disk.Fin_) (S : Blocks) (hn : Hid (n = fs.length)) (hl : Hid (SliceAt Rep.fin w S A c fs)) (hS : Hid (∀ b, S b → b < w.heap.size)) (hbs : Hid (∀ f ∈ fs, f.bytes.length ≤ 1099511627776)) :
    Calls Tryz.prog 7 #[.int .i64 room, .slice A n c] w (RefFromPost w room fs) := by
  have hnc : n ≤ c := by rw [hn.out]; exact hl.out.len
  have hcm := hl.out.max
  by_cases hr0 : room < 0
  · have hE := Lib.hid (show Disk.fromErr room fs = 1 from by unfold Disk.fromErr; rw [if_pos (.inl hr0)])
    go_enter Tryz.func7, Tryz.ntmps7
    go_wp2_with fail
    go_ret2
    exact refFrom_bad hE.out (by decide) (Below.refl _ _)
  by_cases hr1 : 16777216 < room
  · have hE := Lib.hid (show Disk.fromErr room fs = 1 from by unfold Disk.fromErr; rw [if_pos (.inr (.inl hr1))])
    go_enter Tryz.func7, Tryz.ntmps7
    go_wp2_with fail
    go_ret2
    exact refFrom_bad hE.out (by decide) (Below.refl _ _)
  by_cases hn1 : 64 < n
  · have hE := Lib.hid (show Disk.fromErr room fs = 1 from by unfold Disk.fromErr; rw [if_pos (.inr (.inr (by rw [← hn.out]; exact hn1)))])
    go_enter Tryz.func7, Tryz.ntmps7
    go_wp2_with fail
    go_ret2
    exact refFrom_bad hE.out (by decide) (Below.refl _ _)
  have hr0' : 0 ≤ room := by omega
  have hr1' : room ≤ 16777216 := by omega
  have hn1' : n ≤ 64 := by omega
  have hE1 : Hid (Disk.fromErr room fs = if Disk.allOk fs = false then 1 else if room < Disk.total fs then 22 else 0) := Lib.hid (by
    unfold Disk.fromErr
    rw [if_neg (by rw [← hn.out]; omega)])
  go_enter Tryz.func7, Tryz.ntmps7
  go_wp2_with fail
  go_loopg [6, 7] n (fun q v i wr => ∃ (j T : Nat), q = n - j ∧ j ≤ n ∧ i = .int .i64 j ∧ v = .int .i64 T ∧ T ≤ j * 1099511627776 ∧ Hid (Disk.allOk (fs.take j) = true) ∧ Hid (T = Disk.total (fs.take j)) ∧ Hid (Below w.heap.size w wr))
  case atStart => exact ⟨0, 0, by omega, by omega, rfl, rfl, by omega, Lib.hid rfl, Lib.hid rfl, Lib.hid (Below.refl _ _)⟩
  case round =>
    obtain ⟨j, T, rfl, hj, rfl, rfl, hTb, HOK, HT, HB⟩ := hrel
    by_cases hjn : j < n
    · have hjl : j < fs.length := by rw [← hn.out]; exact hjn
      obtain ⟨g, o, cs, rfl, hg, hc, fA, fc, rfl, hfs, hfn, hfw⟩ := hl.out.at_ hjl
      have hTS := total_snoc hjl
      obtain ⟨f, hfe⟩ : ∃ f, fs[j] = f := ⟨_, rfl⟩
      rw [hfe] at hc hfs hfn hfw hTS
      obtain ⟨k1, k2, k3, k4⟩ := (hc.below HB.out (hS.out g hg)).four
      rw [show Rep.fin.n = 4 from rfl] at k1 k2 k3 k4
      obtain ⟨nmv, hnm⟩ : ∃ x : ByteArray, sv f.name = .string x ∧ x.data.toList = f.name ∧ x.size ≤ maxLen := ⟨⟨f.name.toArray⟩, rfl, rfl, by simpa [ByteArray.size] using hfn⟩
      obtain ⟨hnv, hnl, hns⟩ := hnm
      obtain ⟨m, hm⟩ : ∃ m, m = f.bytes.length := ⟨_, rfl⟩
      obtain ⟨sy, hsy⟩ : ∃ x, x = f.syn := ⟨_, rfl⟩
      rw [hnv] at k1
      rw [← hm] at k2 hTS
      rw [← hsy] at k3
      have hmb : m ≤ 1099511627776 := by rw [hm]; exact hbs.out f (by rw [← hfe]; exact List.getElem_mem hjl)
      have hTN : Hid (T + m = Disk.total (fs.take (j + 1))) := Lib.hid (by rw [hTS, HT.out])
      have HBAD : Hid (Disk.okF (fs.take j) f = false → Disk.fromErr room fs = 1) := Lib.hid fun h => by
        rw [hE1.out, if_pos (Disk.allOk_bad hjl (by rw [hfe]; exact h))]
      have HFE := Lib.hid hfe
      have HM_ := Lib.hid hm
      have HSY := Lib.hid hsy
      have HNL := Lib.hid hnl
      have HG : Hid (g < w.heap.size) := Lib.hid (hS.out g hg)
      clear hc hfs hfe hm hsy hnv hnl hfw hTS hg k4
      obtain ⟨q, hq⟩ : ∃ q, Disk.isName nmv.data.toList = q := ⟨_, rfl⟩
      have HNAME : Hid (∀ m, Calls Tryz.prog 24 #[.string nmv] (wr.drewN m) fun e w' => e = .returned (.bool q) ∧ ∃ k, w' = wr.drewN k) := Lib.hid fun m => by
        refine (refName_any nmv hns (wr.drewN m)).mono ?_
        rintro e w' ⟨rfl, rfl⟩
        exact ⟨by rw [hq], m, rfl⟩
      have HQ := Lib.hid hq
      clear hq
      cases q
      · have hE := Lib.hid (HBAD.out (by unfold Disk.okF; rw [← HNL.out, HQ.out]; simp))
        go_wp2_with fail
        go_quiet ((go_at_call 24; exact HNAME.out _))
        go_wp2_with fail
        go_ret2
        exact refFrom_bad hE.out (by decide) (HB.out.trans (below_dr _ _))
      by_cases hs0 : sy < 0
      · have hE := Lib.hid (HBAD.out (by unfold Disk.okF; rw [← HSY.out, decide_eq_false (show ¬ (0 : Int) ≤ sy by omega)]; simp))
        go_wp2_with fail
        go_quiet ((go_at_call 24; exact HNAME.out _))
        go_wp2_with fail
        go_ret2
        exact refFrom_bad hE.out (by decide) (HB.out.trans (below_dr _ _))
      by_cases hs1 : (m : Int) < sy
      · have hE := Lib.hid (HBAD.out (by unfold Disk.okF; rw [← HSY.out, ← HM_.out, decide_eq_false (show ¬ sy ≤ (m : Int) by omega)]; simp))
        go_wp2_with fail
        go_quiet ((go_at_call 24; exact HNAME.out _))
        go_wp2_with fail
        go_ret2
        exact refFrom_bad hE.out (by decide) (HB.out.trans (below_dr _ _))
      go_wp2_with fail
      go_quiet ((go_at_call 24; exact HNAME.out _))
      generalize hW : World.drewN _ _ = w3
      have HB3 : Hid (Below w.heap.size w w3) := Lib.hid (by rw [← hW]; exact HB.out.trans (below_dr _ _))
      clear hW k1 k2 k3
      go_wp2_with fail
      go_loopg [8] j (fun q k wx => ∃ i : Nat, q = j - i ∧ i ≤ j ∧ k = .int .i64 i ∧ Hid (Below w.heap.size w wx) ∧ Hid (∀ g ∈ fs.take i, g.name ≠ f.name))
      case atStart => exact ⟨0, by omega, by omega, rfl, HB3, Lib.hid (by simp)⟩
      case round =>
        obtain ⟨i, rfl, hi, rfl, HBX, HNE⟩ := hrel
        by_cases hij : i < j
        · have hil : i < fs.length := by rw [← hn.out]; omega
          obtain ⟨g', o', cs, he9, -, hc, fA', fc', rfl, -, hfn', -⟩ := hl.out.at_ hil
          simp only [Option.some.injEq, Addr.mk.injEq] at he9
          obtain ⟨rfl, rfl, -⟩ := he9
          obtain ⟨gx, ox, cs, he9, -, hcj, fA2, fc2, rfl, -, -, -⟩ := hl.out.at_ hjl
          simp only [Option.some.injEq, Addr.mk.injEq] at he9
          obtain ⟨rfl, rfl, -⟩ := he9
          obtain ⟨x, hx⟩ : ∃ x : ByteArray, x = ⟨(fs[i]).name.toArray⟩ := ⟨_, rfl⟩
          rw [show sv (fs[i]).name = .string x from congrArg Value.string hx.symm] at hc
          rw [HFE.out, show sv f.name = .string nmv from by rw [← HNL.out]; rfl] at hcj
          have k1 := (hc.below HBX.out HG.out).four.1
          have kj := (hcj.below HBX.out HG.out).four.1
          rw [show Rep.fin.n = 4 from rfl] at k1 kj
          have hxl : x.data.toList = (fs[i]).name := by rw [hx]
          by_cases he : (fs[i]).name = f.name
          · have hbe := bytes_eq (a := x) (b := nmv) (by rw [hxl, he, HNL.out])
            have hE := Lib.hid (HBAD.out (by
              unfold Disk.okF
              have : ((fs.take j).any fun g => g.name == f.name) = true := List.any_eq_true.2 ⟨fs[i], List.mem_take_iff_getElem.2 ⟨i, by omega, rfl⟩, by simp [he]⟩
              rw [this]; simp))
            clear hc hcj hx hxl he
            go_wp2_with fail
            go_quiet (fail)
            go_wp2_with fail
            go_ret2
            exact refFrom_bad hE.out (by decide) (HBX.out.trans (below_dr _ _))
          · have hbe := bytes_ne (a := x) (b := nmv) (by rw [hxl, HNL.out]; exact he)
            have HNE2 : Hid (∀ g ∈ fs.take (i + 1), g.name ≠ f.name) := Lib.hid (by
              intro g hg
              rw [List.take_succ_eq_append_getElem hil] at hg
              rcases List.mem_append.1 hg with hg | hg
              · exact HNE.out g hg
              · rw [List.mem_singleton.1 hg]; exact he)
            clear hc hcj hx hxl he
            go_wp2_with fail
            go_quiet (fail)
            generalize hW : World.drewN _ _ = w4
            have HB4 : Hid (Below w.heap.size w w4) := Lib.hid (by rw [← hW]; exact HBX.out.trans (below_dr _ _))
            clear hW k1 kj
            go_wp2_with fail
            go_roundg (j - (i + 1))
            case measure => omega
            case rel => exact ⟨i + 1, rfl, by omega, by go_num, HB4, HNE2⟩
        · obtain rfl : i = j := by omega
          have HOK2 : Hid (Disk.allOk (fs.take (i + 1)) = true) := Lib.hid (by
            rw [Disk.allOk_snoc hjl, HOK.out, HFE.out, okF_iff (by rw [← HNL.out, HQ.out]) (by rw [← HSY.out]; omega) (by rw [← HSY.out, ← HM_.out]; omega) HNE.out]
            rfl)
          obtain ⟨gx, ox, cs, he9, -, hcj, fA2, fc2, rfl, -, -, -⟩ := hl.out.at_ hjl
          simp only [Option.some.injEq, Addr.mk.injEq] at he9
          obtain ⟨rfl, rfl, -⟩ := he9
          rw [HFE.out, ← HM_.out] at hcj
          have k2 := (hcj.below HBX.out HG.out).four.2.1
          rw [show Rep.fin.n = 4 from rfl] at k2
          clear hcj
          go_wp2_with fail
          go_roundg (n - (i + 1))
          case measure => omega
          case rel => exact ⟨i + 1, T + m, by omega, by omega, by go_num, by go_num, by omega, HOK2, hTN, HBX⟩
    · obtain rfl : j = n := by omega
      have htk : fs.take j = fs := by rw [hn.out, List.take_length]
      rw [htk] at HOK HT
      have hE2 : Hid (Disk.fromErr room fs = if room < Disk.total fs then 22 else 0) := Lib.hid (by rw [hE1.out, HOK.out, if_neg (by decide)])
      clear htk
      by_cases hfull : room < (T : Int)
      · have hE3 := Lib.hid (show Disk.fromErr room fs = 22 from by rw [hE2.out, if_pos (by rw [← HT.out]; exact hfull)])
        go_wp2_with fail
        go_ret2
        exact refFrom_bad hE3.out (by decide) HB.out
      · have hE3 := Lib.hid (show Disk.fromErr room fs = 0 from by rw [hE2.out, if_neg (by rw [← HT.out]; exact hfull)])
        go_wp2_with fail
        obtain ⟨d0, hd0⟩ : ∃ b, b = wr.heap.size := ⟨_, rfl⟩
        rw [← hd0]
        obtain ⟨w1, hw1⟩ : ∃ W, W = wr.alloc (.cells #[.int .i64 room, .bool true, .slice none 0 0, .slice none 0 0, .slice none 0 0, .slice none 0 0, .slice none 0 0, .int .i64 0, .int .i64 0] 92) := ⟨_, rfl⟩
        rw [← hw1]
        have hM1 : Hid (RefMaking w w1 room (fs.take 0) (fs.take 0) d0 (.slice none 0 0) (.slice none 0 0) []) := Lib.hid (by
          refine ⟨by rw [hw1, hd0]; exact heap_alloc_new wr _, by rw [hd0]; exact HB.out.size, Own.nil _ _ _ _, by simp, RowsV.nil _ _, EntAt.nil _ _, by rw [hw1]; exact HB.out.alloc HB.out.size _⟩)
        clear hd0 hw1
        go_loopg [10] j (fun q i wx => ∃ (k : Nat) (av nv : Value) (vs : List TN), q = j - k ∧ k ≤ j ∧ i = .int .i64 k ∧ Hid (RefMaking w wx room (fs.take k) (fs.take k) d0 av nv vs))
        case atStart => exact ⟨0, _, _, _, by omega, by omega, rfl, hM1⟩
        case round =>
          obtain ⟨k, av, nv, vs, rfl, hk, rfl, HM⟩ := hrel
          obtain ⟨wx, rfl⟩ : ∃ W : World, W = wr := ⟨_, rfl⟩
          by_cases hkj : k < j
          · have hkl : k < fs.length := by rw [← hn.out]; exact hkj
            have htl : (fs.take k).length = k := by rw [List.length_take]; omega
            obtain ⟨g, o, cs, rfl, hg, hc, fA, fc, rfl, hfs, hfn, hfw⟩ := hl.out.at_ hkl
            obtain ⟨f, hfe⟩ : ∃ f, fs[k] = f := ⟨_, rfl⟩
            rw [hfe] at hc hfs hfn hfw
            obtain ⟨nmv, hnm⟩ : ∃ x : ByteArray, sv f.name = .string x ∧ x.data.toList = f.name ∧ x.size ≤ maxLen := ⟨⟨f.name.toArray⟩, rfl, rfl, by simpa [ByteArray.size] using hfn⟩
            obtain ⟨hnv, hnl, hns⟩ := hnm
            have hcw : ∀ W, Below w.heap.size w W → CellsAt W g (o + k * Rep.fin.n) _ := fun W hW => hc.below hW (hS.out g hg)
            obtain ⟨k1, k2, k3, k4⟩ := (hcw _ HM.out.below).four
            rw [show Rep.fin.n = 4 from rfl, hnv] at k1
            obtain ⟨NA, NC, rfl, hns2⟩ := HM.out.now
            obtain ⟨nn, hnn⟩ : ∃ x, x = (Disk.nowOf (fs.take k)).length := ⟨_, rfl⟩
            rw [← hnn] at HM
            have hnnb : nn ≤ 64 := by have := Disk.len_nowOf (fs.take k); omega
            have c3 : wx.cell? ⟨d0, 3, none⟩ = some (.slice NA nn NC) := (cell_of_row wx d0 3 _ _ (0, 0) HM.out.hd).trans rfl
            have HPUT : Hid (∀ W, Below wx.heap.size wx W → Calls Tryz.prog 25 #[.slice NA nn NC, .string nmv, .int .i64 k] W fun e w' => ∃ v, e = .returned v ∧ Own Rep.ent 116 w' W.heap.size nob v (Disk.put (Disk.nowOf (fs.take k)) f.name k) ∧ Below W.heap.size W w') := Lib.hid fun W hW => by
              rw [← hnl]
              refine (refPut_any (w := W) (Disk.nowOf (fs.take k)) nmv k NA nn NC _ (Lib.hid hnn) (Lib.hid (hns2.keep (fun _ h => h) (Same.of_below hW fun b hb => hb.lt))) (Lib.hid fun b hb => Nat.lt_of_lt_of_le hb.lt hW.size) (by omega) (Lib.hid hns) (by omega)).mono ?_
              rintro e w' ⟨A', n', c', rfl, -, -, -, -, h5, h6⟩
              exact ⟨_, rfl, h5, h6⟩
            have hputE : Disk.put (Disk.nowOf (fs.take k)) f.name k = Disk.nowOf (fs.take (k + 1)) := by
              rw [List.take_succ_eq_append_getElem hkl, Disk.nowOf_snoc, htl, hfe]
            have HPE := Lib.hid hputE
            have HFE := Lib.hid hfe
            have HCW := Lib.hid hcw
            have HFS := Lib.hid hfs
            clear hc hfs hfn hfw hcw hfe hnv hnl hns hns2 hnn k2 k3 k4 htl hg hputE
            go_upto_region 21 with fail
            go_cut [] from 93 to 132 (fun wc => ∃ nv, Hid (RefMaking w wc room (fs.take k) (fs.take (k + 1)) d0 av nv vs))
            case first =>
              go_region_law (refine step_call_law rfl 25 #[.tmp 97, .tmp 102, .tmp 103] #[89, 9, 3] rfl enters_put #[.slice NA nn NC, .string nmv, .int .i64 k] (by simp [Act.eval]) _ (HPUT.out _ ⟨rfl, rfl, rfl, Nat.le_refl _, fun _ _ => rfl⟩) ?_; rintro e w10 ⟨v10, rfl, hown, hb10⟩; obtain ⟨pA, pn, pc, rfl, -, -, -⟩ := hown.form; have HOWN := Lib.hid hown; have HB10 : Hid (Below wx.heap.size wx w10) := Lib.hid ⟨hb10.os, hb10.tape, hb10.output, hb10.size, hb10.block⟩; have s1 : w10.cell? ⟨d0, 3, none⟩ = some (.slice NA nn NC) := (HB10.out.cell (p := ⟨d0, 3, none⟩) HM.out.lt).trans c3; have s2 : w10.frozen? ⟨d0, 3, none⟩ = false := (by simp [World.frozen?, HB10.out.block _ HM.out.lt, HM.out.hd]); clear hown hb10; refine ⟨_, rfl, ?_⟩)
              all_goals
                go_wp2_with fail
                go_meet
                case rel => exact ⟨_, Lib.hid (HM.out.name HB10.out HOWN.out HPE.out)⟩
            case rest =>
              obtain ⟨nv2, HM2⟩ := hcut
              obtain ⟨w11, rfl⟩ : ∃ W : World, W = wc := ⟨_, rfl⟩
              clear c3 k1 HM HPUT
              obtain ⟨k1, k2, k3, k4⟩ := (HCW.out _ HM2.out.below).four
              rw [show Rep.fin.n = 4 from rfl] at k1 k2 k3 k4
              obtain ⟨aA, an, ac, rfl, han, hac, haM⟩ := HM2.out.all.form
              have c2 : w11.cell? ⟨d0, 2, none⟩ = some (.slice aA an ac) := (cell_of_row w11 d0 2 _ _ (0, 0) HM2.out.hd).trans rfl
              have hokf := Disk.allOk_at HOK.out hkl
              rw [HFE.out] at hokf
              simp only [Disk.okF, Bool.and_eq_true, decide_eq_true_eq] at hokf
              obtain ⟨nd, hnd⟩ : ∃ x, x = f.nd := ⟨_, rfl⟩
              have e1 : f.syn = (nd.syn : Int) := by rw [hnd]; simp only [Disk.Fin_.nd]; omega
              have e2 : f.bad = nd.bad := by rw [hnd]; rfl
              have e3 : f.bytes = nd.bytes := by rw [hnd]; rfl
              obtain ⟨m, hm⟩ : ∃ m, m = nd.bytes.length := ⟨_, rfl⟩
              have hmb : m ≤ 1099511627776 := by rw [hm, ← e3, ← HFE.out]; exact hbs.out _ (List.getElem_mem hkl)
              have hsb : nd.syn ≤ 1099511627776 := by have := hokf.1.2; rw [e1, e3] at this; omega
              have HND := Lib.hid hnd
              have hfb := HFS.out
              have hcw := HCW.out
              rw [e1, e2, e3, ← hm] at hcw
              rw [e3] at hfb
              rw [e3, ← hm] at k2
              rw [e1] at k3
              rw [e2] at k4
              have HCX := Lib.hid hcw
              have HFB := Lib.hid hfb
              clear hcw hfb
              have hanl : Hid (vs.length = k) := Lib.hid (by
                have := congrArg List.length HM2.out.is_
                rw [List.length_map, List.length_map, List.length_take] at this
                omega)
              have HCP : Hid (∀ W, Below w11.heap.size w11 W → Calls Tryz.prog 26 #[.slice fA m fc] W fun e w' => ∃ v, e = .returned v ∧ Own Rep.byte 5 w' W.heap.size nob v nd.bytes ∧ Below W.heap.size W w') := Lib.hid fun W hW =>
                copied_any fA m fc nd.bytes W _ (Lib.hid hm) (Lib.hid (HFB.out.keep (fun _ h => h) (Same.of_below (HM2.out.below.trans (hW.mono HM2.out.below.size)) hS.out))) (by omega)
              clear hm hnd e1 e2 e3 hokf han k1
              have HSB : Hid (∀ W, Below w.heap.size w W → W.cell? ⟨g, o + k * 4 + 1, none⟩ = some (.slice fA m fc) ∧ W.cell? ⟨g, o + k * 4 + 2, none⟩ = some (.int .i64 nd.syn) ∧ W.cell? ⟨g, o + k * 4 + 3, none⟩ = some (.bool nd.bad)) := Lib.hid fun W hW => (HCX.out W hW).four.2
              have HK0 := Lib.hid (HSB.out _ HM2.out.below)
              go_upto_region 22 with fail
              refine wp_region_noPanic ?_
              refine wp_region_held_drew (S := (fun W => W.cell? ⟨g, o + k * 4 + 1, none⟩ = some (.slice fA m fc) ∧ W.cell? ⟨g, o + k * 4 + 2, none⟩ = some (.int .i64 nd.syn) ∧ W.cell? ⟨g, o + k * 4 + 3, none⟩ = some (.bool nd.bad))) (by kernel_rfl) HK0.out (fun hHeld => ?_)
              refine wpAnyH_take (i := 0) (v := ?_) rfl (by kernel_rfl) (by kernel_rfl) (by kernel_rfl) (fun _ _ _ h => h) (Or.inl ⟨by rfl, ?_⟩) (by assumption) ?_
              rotate_left 1
              · (intro w hSw; (try dsimp only at hSw); go_simp <;> (try with_reducible rfl))
              try simp only [Act.put, List.setIfInBounds_toArray, List.set_cons_zero, List.set_cons_succ]
              refine wpAnyH_take (i := 1) (v := ?_) rfl (by kernel_rfl) (by kernel_rfl) (by kernel_rfl) (fun _ _ _ h => h) (Or.inl ⟨by rfl, ?_⟩) (by assumption) ?_
              rotate_left 1
              · (intro w hSw; (try dsimp only at hSw); go_simp <;> (try with_reducible rfl))
              try simp only [Act.put, List.setIfInBounds_toArray, List.set_cons_zero, List.set_cons_succ]
              refine wpAnyH_take (i := 2) (v := ?_) rfl (by kernel_rfl) (by kernel_rfl) (by kernel_rfl) (fun _ _ _ h => h) (Or.inl ⟨by rfl, ?_⟩) (by assumption) ?_
              rotate_left 1
              · (intro w hSw; (try dsimp only at hSw); go_simp <;> (try with_reducible rfl))
              try simp only [Act.put, List.setIfInBounds_toArray, List.set_cons_zero, List.set_cons_succ]
              refine wpAnyH_take (i := 3) (v := ?_) rfl (by kernel_rfl) (by kernel_rfl) (by kernel_rfl) (fun _ _ _ h => h) (Or.inl ⟨by rfl, ?_⟩) (by assumption) ?_
              rotate_left 1
              · (intro w hSw; (try dsimp only at hSw); go_simp <;> (try with_reducible rfl))
              try simp only [Act.put, List.setIfInBounds_toArray, List.set_cons_zero, List.set_cons_succ]
              refine wpAnyH_take (i := 5) (v := ?_) rfl (by kernel_rfl) (by kernel_rfl) (by kernel_rfl) (fun _ _ _ h => h) (Or.inl ⟨by rfl, ?_⟩) (by assumption) ?_
              rotate_left 1
              · (intro w hSw; (try dsimp only at hSw); go_simp <;> (try with_reducible rfl))
              try simp only [Act.put, List.setIfInBounds_toArray, List.set_cons_zero, List.set_cons_succ]
              refine wpAnyH_take (i := 6) (v := ?_) rfl (by kernel_rfl) (by kernel_rfl) (by kernel_rfl) (fun _ _ _ h => h) (Or.inl ⟨by rfl, ?_⟩) (by assumption) ?_
              rotate_left 1
              · (intro w hSw; (try dsimp only at hSw); go_simp <;> (try with_reducible rfl))
              try simp only [Act.put, List.setIfInBounds_toArray, List.set_cons_zero, List.set_cons_succ]
              refine wpAnyH_take (i := 7) (v := ?_) rfl (by kernel_rfl) (by kernel_rfl) (by kernel_rfl) (fun _ _ _ h => h) (Or.inl ⟨by rfl, ?_⟩) (by assumption) ?_
              rotate_left 1
              · (intro w hSw; (try dsimp only at hSw); go_simp <;> (try with_reducible rfl))
              try simp only [Act.put, List.setIfInBounds_toArray, List.set_cons_zero, List.set_cons_succ]
              refine wpAnyH_take (i := 8) (v := ?_) rfl (by kernel_rfl) (by kernel_rfl) (by kernel_rfl) (fun _ _ _ h => h) (Or.inl ⟨by rfl, ?_⟩) (by assumption) ?_
              rotate_left 1
              · (intro w hSw; (try dsimp only at hSw); go_simp <;> (try with_reducible rfl))
              try simp only [Act.put, List.setIfInBounds_toArray, List.set_cons_zero, List.set_cons_succ]
              refine wpAnyH_take (i := 9) (v := ?_) rfl (by kernel_rfl) (by kernel_rfl) (by kernel_rfl) (fun _ _ _ h => h) (Or.inl ⟨by rfl, ?_⟩) (by assumption) ?_
              rotate_left 1
              · (intro w hSw; (try dsimp only at hSw); go_simp <;> (try with_reducible rfl))
              try simp only [Act.put, List.setIfInBounds_toArray, List.set_cons_zero, List.set_cons_succ]
              refine wpAnyH_take (i := 11) (v := ?_) rfl (by kernel_rfl) (by kernel_rfl) (by kernel_rfl) (fun _ _ _ h => h) (Or.inl ⟨by rfl, ?_⟩) (by assumption) ?_
              rotate_left 1
              · (intro w hSw; (try dsimp only at hSw); go_simp <;> (try with_reducible rfl))
              try simp only [Act.put, List.setIfInBounds_toArray, List.set_cons_zero, List.set_cons_succ]
              refine wpAnyH_take (i := 12) (v := ?_) rfl (by kernel_rfl) (by kernel_rfl) (by kernel_rfl) (fun _ _ _ h => h) (Or.inl ⟨by rfl, ?_⟩) (by assumption) ?_
              rotate_left 1
              · (intro w hSw; (try dsimp only at hSw); go_simp <;> (try with_reducible rfl))
              try simp only [Act.put, List.setIfInBounds_toArray, List.set_cons_zero, List.set_cons_succ]
              refine wpAnyH_take (i := 13) (v := ?_) rfl (by kernel_rfl) (by kernel_rfl) (by kernel_rfl) (fun _ _ _ h => h) (Or.inl ⟨by rfl, ?_⟩) (by assumption) ?_
              rotate_left 1
              · (intro w hSw; (try dsimp only at hSw); go_simp <;> (try with_reducible rfl))
              try simp only [Act.put, List.setIfInBounds_toArray, List.set_cons_zero, List.set_cons_succ]
              refine wpAnyH_take (i := 14) (v := ?_) rfl (by kernel_rfl) (by kernel_rfl) (by kernel_rfl) (fun _ _ _ h => h) (Or.inl ⟨by rfl, ?_⟩) (by assumption) ?_
              rotate_left 1
              · (intro w hSw; (try dsimp only at hSw); go_simp <;> (try with_reducible rfl))
              try simp only [Act.put, List.setIfInBounds_toArray, List.set_cons_zero, List.set_cons_succ]
              refine wpAnyH_take (i := 15) (v := ?_) rfl (by kernel_rfl) (by kernel_rfl) (by kernel_rfl) (fun _ _ _ h => h) (Or.inl ⟨by rfl, ?_⟩) (by assumption) ?_
              rotate_left 1
              · (intro w hSw; (try dsimp only at hSw); go_simp <;> (try with_reducible rfl))
              try simp only [Act.put, List.setIfInBounds_toArray, List.set_cons_zero, List.set_cons_succ]
              refine wpAnyH_take (i := 16) (v := ?_) rfl (by kernel_rfl) (by kernel_rfl) (by kernel_rfl) (fun _ _ _ h => h) (Or.inl ⟨by rfl, ?_⟩) (by assumption) ?_
              rotate_left 1
              · (intro w hSw; (try dsimp only at hSw); go_simp <;> (try with_reducible rfl))
              try simp only [Act.put, List.setIfInBounds_toArray, List.set_cons_zero, List.set_cons_succ]
              refine wpAnyH_take (i := 17) (v := ?_) rfl (by kernel_rfl) (by kernel_rfl) (by kernel_rfl) (fun _ _ _ h => h) (Or.inl ⟨by rfl, ?_⟩) (by assumption) ?_
              rotate_left 1
              · (intro w hSw; (try dsimp only at hSw); go_simp <;> (try with_reducible rfl))
              try simp only [Act.put, List.setIfInBounds_toArray, List.set_cons_zero, List.set_cons_succ]
              refine wpAnyH_take (i := 18) (v := ?_) rfl (by kernel_rfl) (by kernel_rfl) (by kernel_rfl) (fun _ _ _ h => h) (Or.inl ⟨by rfl, ?_⟩) (by assumption) ?_
              rotate_left 1
              · (intro w hSw; (try dsimp only at hSw); go_simp <;> (try with_reducible rfl))
              try simp only [Act.put, List.setIfInBounds_toArray, List.set_cons_zero, List.set_cons_succ]
              refine wpAnyH_take (i := 19) (v := ?_) rfl (by kernel_rfl) (by kernel_rfl) (by kernel_rfl) (fun _ _ _ h => h) (Or.inl ⟨by rfl, ?_⟩) (by assumption) ?_
              rotate_left 1
              · (intro w hSw; (try dsimp only at hSw); go_simp <;> (try with_reducible rfl))
              try simp only [Act.put, List.setIfInBounds_toArray, List.set_cons_zero, List.set_cons_succ]
              refine wpAnyH_take (i := 20) (v := ?_) rfl (by kernel_rfl) (by kernel_rfl) (by kernel_rfl) (fun _ _ _ h => h) (Or.inl ⟨by rfl, ?_⟩) (by assumption) ?_
              rotate_left 1
              · (intro w hSw; (try dsimp only at hSw); go_simp <;> (try with_reducible rfl))
              try simp only [Act.put, List.setIfInBounds_toArray, List.set_cons_zero, List.set_cons_succ]
              refine wpAnyH_ready (rs := [4, 10]) (by kernel_rfl) (by simp) ?_
              refine AllReadyH.cons rfl (fun K hK => ?_) (AllReadyH.cons rfl (fun K hK => ?_) AllReadyH.nil)
              · go_simp
                refine hK.out _ _ HK0.out (fun hHeld => ?_)
                clear hK K
                try simp only [Act.put, List.setIfInBounds_toArray, List.set_cons_zero, List.set_cons_succ]
                refine wpAnyH_ready (rs := [10]) (by kernel_rfl) (by simp) ?_
                refine AllReadyH.cons rfl (fun K hK => ?_) AllReadyH.nil
                go_simp
                refine (HCP.out w11.drew ⟨rfl, rfl, rfl, Nat.le_refl _, fun _ _ => rfl⟩).mono ?_; rintro e w12 ⟨v12, rfl, hown, hb12⟩; obtain ⟨qA, qn, qc, rfl, -, -, -⟩ := hown.form; have HOWN2 := Lib.hid hown; have HB12 : Hid (Below w11.heap.size w11 w12) := Lib.hid ⟨hb12.os, hb12.tape, hb12.output, hb12.size, hb12.block⟩; have HS12 := Lib.hid (HSB.out _ (HM2.out.below.trans (HB12.out.mono HM2.out.below.size))); have HS12a := Lib.hid (fun ob => HSB.out (w12.alloc ob) ((HM2.out.below.trans (HB12.out.mono HM2.out.below.size)).alloc (Nat.le_trans HM2.out.below.size HB12.out.size) ob)); have c22 : w12.cell? ⟨d0, 2, none⟩ = some (.slice aA an ac) := (HB12.out.cell (p := ⟨d0, 2, none⟩) HM2.out.lt).trans c2; have c23 : ∀ ob, (w12.alloc ob).cell? ⟨d0, 2, none⟩ = some (.slice aA an ac) := fun ob => ((Below.alloc (Below.refl w12.heap.size w12) (Nat.le_refl _) ob).cell (p := ⟨d0, 2, none⟩) (Nat.lt_of_lt_of_le HM2.out.lt HB12.out.size)).trans c22; clear hown hb12
                go_wp2_with fail
                refine hK.out _ _ HS12.out (fun hHeld => ?_)
                clear hK K
                try simp only [Act.put, List.setIfInBounds_toArray, List.set_cons_zero, List.set_cons_succ]
                refine wpAnyH_take (i := 21) (v := ?_) rfl (by kernel_rfl) (by kernel_rfl) (by kernel_rfl) (fun _ _ _ h => h) (Or.inl ⟨by rfl, ?_⟩) (by assumption) ?_
                rotate_left 1
                · (intro w hSw; (try dsimp only at hSw); go_simp <;> (try with_reducible rfl))
                try simp only [Act.put, List.setIfInBounds_toArray, List.set_cons_zero, List.set_cons_succ]
                refine wpAnyH_ready (rs := [22]) (by kernel_rfl) (by simp) ?_
                refine AllReadyH.cons rfl (fun K hK => ?_) AllReadyH.nil
                go_simp
                refine hK.out _ _ (HS12a.out _) (fun hHeld => ?_)
                clear hK K
                try simp only [Act.put, List.setIfInBounds_toArray, List.set_cons_zero, List.set_cons_succ]
                refine wpAnyH_ready (rs := [23]) (by kernel_rfl) (by simp) ?_
                refine AllReadyH.cons rfl (fun K hK => ?_) AllReadyH.nil
                (refine step_append_Own rfl (.tmp 111) (.tmp 129) 88 rfl Rep.nodeV w.heap.size 95 40 stNode nob (.slice aA an ac) vs (by simp [Act.eval]) ((HM2.out.all.far HB12.out).alloc _) _ (some ⟨_, 0, none⟩) 1 [(nd, .slice qA qn qc)] (by simp [Act.eval]) (SliceAt.new1 Rep.nodeV _ _ _ (nd, .slice qA qn qc) nob ⟨rfl, hsb, rfl⟩ (fun _ h => h.elim)) nob (fun _ h => h.elim) (fun _ h => h) (fun _ _ h => h) (by have := hanl.out; simp <;> omega) (by have := hanl.out; simp <;> omega) (by have := HM2.out.below.size; have := HB12.out.size; simp <;> omega) ?_; intro v3 w13 hown3 hg3 hat3; obtain ⟨rA, rn, rc, rfl, -, -, -⟩ := hown3.form; obtain ⟨hm3, s1, s2, hb13⟩ := HM2.out.file HB12.out HND.out HOWN2.out _ hg3 hown3; have HM3 := Lib.hid hm3; have HS13 := Lib.hid (HSB.out _ hb13); have HS14 := Lib.hid (HSB.out _ hm3.below); clear hown3 hg3 hat3 hm3 hb13)
                go_simp
                refine hK.out _ _ HS13.out (fun hHeld => ?_)
                clear hK K
                try simp only [Act.put, List.setIfInBounds_toArray, List.set_cons_zero, List.set_cons_succ]
                refine wpAnyH_take (i := 24) (v := ?_) rfl (by kernel_rfl) (by kernel_rfl) (by kernel_rfl) (fun _ _ _ h => h) (Or.inl ⟨by rfl, ?_⟩) (by assumption) ?_
                rotate_left 1
                · (intro w hSw; (try dsimp only at hSw); go_simp <;> (try with_reducible rfl))
                try simp only [Act.put, List.setIfInBounds_toArray, List.set_cons_zero, List.set_cons_succ]
                refine wpAnyH_take (i := 25) (v := ?_) rfl (by kernel_rfl) (by kernel_rfl) (by kernel_rfl) (fun _ _ _ h => h) (Or.inl ⟨by rfl, ?_⟩) (by assumption) ?_
                rotate_left 1
                · (intro w hSw; (try dsimp only at hSw); go_simp <;> (try with_reducible rfl))
                try simp only [Act.put, List.setIfInBounds_toArray, List.set_cons_zero, List.set_cons_succ]
                refine wpAnyH_ready (rs := [26]) (by kernel_rfl) (by simp) ?_
                refine AllReadyH.cons rfl (fun K hK => ?_) AllReadyH.nil
                go_simp
                refine hK.out _ _ HS14.out (fun hHeld => ?_)
                clear hK K
                try simp only [Act.put, List.setIfInBounds_toArray, List.set_cons_zero, List.set_cons_succ]
                refine wpAnyH_done (by kernel_rfl) ?_ _
                refine NoPanic.normal ?_
                obtain ⟨w14, hw14⟩ : ∃ W, W = w13.setCell ⟨d0, 2, none⟩ (.slice rA rn rc) := ⟨_, rfl⟩
                rw [← hw14] at HM3
                rw [← hw14]
                clear hw14
                go_wp2_with fail
                go_roundg (j - (k + 1))
                case measure => omega
                case rel =>
                  have h := HM3.out
                  rw [show fs.take k ++ [f] = fs.take (k + 1) from by rw [List.take_succ_eq_append_getElem hkl, HFE.out]] at h
                  exact ⟨k + 1, _, _, _, by omega, by omega, by go_num, Lib.hid h⟩
              · go_simp
                refine (HCP.out w11.drew ⟨rfl, rfl, rfl, Nat.le_refl _, fun _ _ => rfl⟩).mono ?_; rintro e w12 ⟨v12, rfl, hown, hb12⟩; obtain ⟨qA, qn, qc, rfl, -, -, -⟩ := hown.form; have HOWN2 := Lib.hid hown; have HB12 : Hid (Below w11.heap.size w11 w12) := Lib.hid ⟨hb12.os, hb12.tape, hb12.output, hb12.size, hb12.block⟩; have HS12 := Lib.hid (HSB.out _ (HM2.out.below.trans (HB12.out.mono HM2.out.below.size))); have HS12a := Lib.hid (fun ob => HSB.out (w12.alloc ob) ((HM2.out.below.trans (HB12.out.mono HM2.out.below.size)).alloc (Nat.le_trans HM2.out.below.size HB12.out.size) ob)); have c22 : w12.cell? ⟨d0, 2, none⟩ = some (.slice aA an ac) := (HB12.out.cell (p := ⟨d0, 2, none⟩) HM2.out.lt).trans c2; have c23 : ∀ ob, (w12.alloc ob).cell? ⟨d0, 2, none⟩ = some (.slice aA an ac) := fun ob => ((Below.alloc (Below.refl w12.heap.size w12) (Nat.le_refl _) ob).cell (p := ⟨d0, 2, none⟩) (Nat.lt_of_lt_of_le HM2.out.lt HB12.out.size)).trans c22; clear hown hb12
                go_wp2_with fail
                refine hK.out _ _ HS12.out (fun hHeld => ?_)
                clear hK K
                try simp only [Act.put, List.setIfInBounds_toArray, List.set_cons_zero, List.set_cons_succ]
                refine wpAnyH_take (i := 21) (v := ?_) rfl (by kernel_rfl) (by kernel_rfl) (by kernel_rfl) (fun _ _ _ h => h) (Or.inl ⟨by rfl, ?_⟩) (by assumption) ?_
                rotate_left 1
                · (intro w hSw; (try dsimp only at hSw); go_simp <;> (try with_reducible rfl))
                try simp only [Act.put, List.setIfInBounds_toArray, List.set_cons_zero, List.set_cons_succ]
                refine wpAnyH_ready (rs := [4, 22]) (by kernel_rfl) (by simp) ?_
                refine AllReadyH.cons rfl (fun K hK => ?_) (AllReadyH.cons rfl (fun K hK => ?_) AllReadyH.nil)
                · go_simp
                  refine hK.out _ _ HS12.out (fun hHeld => ?_)
                  clear hK K
                  try simp only [Act.put, List.setIfInBounds_toArray, List.set_cons_zero, List.set_cons_succ]
                  refine wpAnyH_ready (rs := [22]) (by kernel_rfl) (by simp) ?_
                  refine AllReadyH.cons rfl (fun K hK => ?_) AllReadyH.nil
                  go_simp
                  refine hK.out _ _ (HS12a.out _) (fun hHeld => ?_)
                  clear hK K
                  try simp only [Act.put, List.setIfInBounds_toArray, List.set_cons_zero, List.set_cons_succ]
                  refine wpAnyH_ready (rs := [23]) (by kernel_rfl) (by simp) ?_
                  refine AllReadyH.cons rfl (fun K hK => ?_) AllReadyH.nil
                  (refine step_append_Own rfl (.tmp 111) (.tmp 129) 88 rfl Rep.nodeV w.heap.size 95 40 stNode nob (.slice aA an ac) vs (by simp [Act.eval]) ((HM2.out.all.far HB12.out).alloc _) _ (some ⟨_, 0, none⟩) 1 [(nd, .slice qA qn qc)] (by simp [Act.eval]) (SliceAt.new1 Rep.nodeV _ _ _ (nd, .slice qA qn qc) nob ⟨rfl, hsb, rfl⟩ (fun _ h => h.elim)) nob (fun _ h => h.elim) (fun _ h => h) (fun _ _ h => h) (by have := hanl.out; simp <;> omega) (by have := hanl.out; simp <;> omega) (by have := HM2.out.below.size; have := HB12.out.size; simp <;> omega) ?_; intro v3 w13 hown3 hg3 hat3; obtain ⟨rA, rn, rc, rfl, -, -, -⟩ := hown3.form; obtain ⟨hm3, s1, s2, hb13⟩ := HM2.out.file HB12.out HND.out HOWN2.out _ hg3 hown3; have HM3 := Lib.hid hm3; have HS13 := Lib.hid (HSB.out _ hb13); have HS14 := Lib.hid (HSB.out _ hm3.below); clear hown3 hg3 hat3 hm3 hb13)
                  go_simp
                  refine hK.out _ _ HS13.out (fun hHeld => ?_)
                  clear hK K
                  try simp only [Act.put, List.setIfInBounds_toArray, List.set_cons_zero, List.set_cons_succ]
                  refine wpAnyH_take (i := 24) (v := ?_) rfl (by kernel_rfl) (by kernel_rfl) (by kernel_rfl) (fun _ _ _ h => h) (Or.inl ⟨by rfl, ?_⟩) (by assumption) ?_
                  rotate_left 1
                  · (intro w hSw; (try dsimp only at hSw); go_simp <;> (try with_reducible rfl))
                  try simp only [Act.put, List.setIfInBounds_toArray, List.set_cons_zero, List.set_cons_succ]
                  refine wpAnyH_take (i := 25) (v := ?_) rfl (by kernel_rfl) (by kernel_rfl) (by kernel_rfl) (fun _ _ _ h => h) (Or.inl ⟨by rfl, ?_⟩) (by assumption) ?_
                  rotate_left 1
                  · (intro w hSw; (try dsimp only at hSw); go_simp <;> (try with_reducible rfl))
                  try simp only [Act.put, List.setIfInBounds_toArray, List.set_cons_zero, List.set_cons_succ]
                  refine wpAnyH_ready (rs := [26]) (by kernel_rfl) (by simp) ?_
                  refine AllReadyH.cons rfl (fun K hK => ?_) AllReadyH.nil
                  go_simp
                  refine hK.out _ _ HS14.out (fun hHeld => ?_)
                  clear hK K
                  try simp only [Act.put, List.setIfInBounds_toArray, List.set_cons_zero, List.set_cons_succ]
                  refine wpAnyH_done (by kernel_rfl) ?_ _
                  refine NoPanic.normal ?_
                  obtain ⟨w14, hw14⟩ : ∃ W, W = w13.setCell ⟨d0, 2, none⟩ (.slice rA rn rc) := ⟨_, rfl⟩
                  rw [← hw14] at HM3
                  rw [← hw14]
                  clear hw14
                  go_wp2_with fail
                  go_roundg (j - (k + 1))
                  case measure => omega
                  case rel =>
                    have h := HM3.out
                    rw [show fs.take k ++ [f] = fs.take (k + 1) from by rw [List.take_succ_eq_append_getElem hkl, HFE.out]] at h
                    exact ⟨k + 1, _, _, _, by omega, by omega, by go_num, Lib.hid h⟩
                · go_simp
                  refine hK.out _ _ (HS12a.out _) (fun hHeld => ?_)
                  clear hK K
                  try simp only [Act.put, List.setIfInBounds_toArray, List.set_cons_zero, List.set_cons_succ]
                  refine wpAnyH_ready (rs := [4]) (by kernel_rfl) (by simp) ?_
                  refine AllReadyH.cons rfl (fun K hK => ?_) AllReadyH.nil
                  go_simp
                  refine hK.out _ _ (HS12a.out _) (fun hHeld => ?_)
                  clear hK K
                  try simp only [Act.put, List.setIfInBounds_toArray, List.set_cons_zero, List.set_cons_succ]
                  refine wpAnyH_ready (rs := [23]) (by kernel_rfl) (by simp) ?_
                  refine AllReadyH.cons rfl (fun K hK => ?_) AllReadyH.nil
                  (refine step_append_Own rfl (.tmp 111) (.tmp 129) 88 rfl Rep.nodeV w.heap.size 95 40 stNode nob (.slice aA an ac) vs (by simp [Act.eval]) ((HM2.out.all.far HB12.out).alloc _) _ (some ⟨_, 0, none⟩) 1 [(nd, .slice qA qn qc)] (by simp [Act.eval]) (SliceAt.new1 Rep.nodeV _ _ _ (nd, .slice qA qn qc) nob ⟨rfl, hsb, rfl⟩ (fun _ h => h.elim)) nob (fun _ h => h.elim) (fun _ h => h) (fun _ _ h => h) (by have := hanl.out; simp <;> omega) (by have := hanl.out; simp <;> omega) (by have := HM2.out.below.size; have := HB12.out.size; simp <;> omega) ?_; intro v3 w13 hown3 hg3 hat3; obtain ⟨rA, rn, rc, rfl, -, -, -⟩ := hown3.form; obtain ⟨hm3, s1, s2, hb13⟩ := HM2.out.file HB12.out HND.out HOWN2.out _ hg3 hown3; have HM3 := Lib.hid hm3; have HS13 := Lib.hid (HSB.out _ hb13); have HS14 := Lib.hid (HSB.out _ hm3.below); clear hown3 hg3 hat3 hm3 hb13)
                  go_simp
                  refine hK.out _ _ HS13.out (fun hHeld => ?_)
                  clear hK K
                  try simp only [Act.put, List.setIfInBounds_toArray, List.set_cons_zero, List.set_cons_succ]
                  refine wpAnyH_take (i := 24) (v := ?_) rfl (by kernel_rfl) (by kernel_rfl) (by kernel_rfl) (fun _ _ _ h => h) (Or.inl ⟨by rfl, ?_⟩) (by assumption) ?_
                  rotate_left 1
                  · (intro w hSw; (try dsimp only at hSw); go_simp <;> (try with_reducible rfl))
                  try simp only [Act.put, List.setIfInBounds_toArray, List.set_cons_zero, List.set_cons_succ]
                  refine wpAnyH_take (i := 25) (v := ?_) rfl (by kernel_rfl) (by kernel_rfl) (by kernel_rfl) (fun _ _ _ h => h) (Or.inl ⟨by rfl, ?_⟩) (by assumption) ?_
                  rotate_left 1
                  · (intro w hSw; (try dsimp only at hSw); go_simp <;> (try with_reducible rfl))
                  try simp only [Act.put, List.setIfInBounds_toArray, List.set_cons_zero, List.set_cons_succ]
                  refine wpAnyH_ready (rs := [26]) (by kernel_rfl) (by simp) ?_
                  refine AllReadyH.cons rfl (fun K hK => ?_) AllReadyH.nil
                  go_simp
                  refine hK.out _ _ HS14.out (fun hHeld => ?_)
                  clear hK K
                  try simp only [Act.put, List.setIfInBounds_toArray, List.set_cons_zero, List.set_cons_succ]
                  refine wpAnyH_done (by kernel_rfl) ?_ _
                  refine NoPanic.normal ?_
                  obtain ⟨w14, hw14⟩ : ∃ W, W = w13.setCell ⟨d0, 2, none⟩ (.slice rA rn rc) := ⟨_, rfl⟩
                  rw [← hw14] at HM3
                  rw [← hw14]
                  clear hw14
                  go_wp2_with fail
                  go_roundg (j - (k + 1))
                  case measure => omega
                  case rel =>
                    have h := HM3.out
                    rw [show fs.take k ++ [f] = fs.take (k + 1) from by rw [List.take_succ_eq_append_getElem hkl, HFE.out]] at h
                    exact ⟨k + 1, _, _, _, by omega, by omega, by go_num, Lib.hid h⟩
          · obtain rfl : k = j := by omega
            have htk : fs.take k = fs := by rw [hn.out, List.take_length]
            rw [htk] at HM
            obtain ⟨NA, NC, rfl, hns2⟩ := HM.out.now
            have c3 : wx.cell? ⟨d0, 3, none⟩ = some (.slice NA (Disk.nowOf fs).length NC) := (cell_of_row wx d0 3 _ _ (0, 0) HM.out.hd).trans rfl
            obtain ⟨nn, hnn⟩ : ∃ x, x = (Disk.nowOf fs).length := ⟨_, rfl⟩
            rw [← hnn] at c3
            have c4 : wx.cell? ⟨d0, 4, none⟩ = some (.slice none 0 0) := (cell_of_row wx d0 4 _ _ (0, 0) HM.out.hd).trans rfl
            have f4 : wx.frozen? ⟨d0, 4, none⟩ = false := by simp [World.frozen?, HM.out.hd]
            have HNN := Lib.hid hnn
            clear htk hns2 hnn
            go_wp2_with fail
            go_ret2
            refine .inr ⟨hE3.out, d0, rfl, ⟨av, .slice NA nn NC, .slice NA nn NC, .slice none 0 0, .slice none 0 0, vs, ?_⟩, ?_⟩
            · have ho : Only (fun b => b = d0) wx (wx.setCell ⟨d0, 4, none⟩ (.slice NA nn NC)) := (Only.refl (fun b => b = d0) wx).setCell (p := ⟨d0, 4, none⟩) (.inl rfl) _
              have hnow : EntAt (wx.setCell ⟨d0, 4, none⟩ (.slice NA nn NC)) w.heap.size (.slice NA nn NC) (Disk.nowOf fs) := by
                have h := HM.out.now
                rw [← HNN.out] at h
                exact h.only ho fun b hb => hb.ne HM.out.hd (by decide)
              refine ⟨?_, HM.out.low, HM.out.all.only ho fun b hb e => ?_, HM.out.is_, HM.out.rows.only ho fun x hx b hb e => ?_, hnow, hnow, Own.nil _ _ _ _, Own.nil _ _ _ _⟩
              · simp only [World.setCell, Array.getElem?_modify, if_true, HM.out.hd, Option.map_some, ← HNN.out]
                rfl
              · subst e; exact HM.out.all.ne_block HM.out.hd (by decide) hb
              · subst e; exact HM.out.rows.ne HM.out.hd (by decide) x hx hb
            · exact HM.out.below.trans (((Only.refl (fun b => b = d0) wx).setCell (p := ⟨d0, 4, none⟩) (.inl rfl) _).below HM.out.below.size fun b hb => by rw [hb]; exact HM.out.low)
end
end Go.Proofs.YtncpeogkccjmcaaGreatDoor
