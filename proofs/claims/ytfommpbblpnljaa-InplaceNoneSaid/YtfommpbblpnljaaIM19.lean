/- Texts that lead to the claim, one behind the other: Is there power, are these names, is there the file: the walks of (disk.Disk).ours and looked. Condition: none. -/
import Derived.Test.YtfommpbblpnljaaIM18
import Derived.Test.YtfommpbblpnljaaIM7
namespace Go.Proofs.Ytfommpbblpnljaa
open Go.RowKit Go.ChangeShapes Go.WideShapes Go.Deep

section
variable {w w' : World} {F G : Blocks} {d : Nat} {s : Disk.St} {loc : Nat → Nat} {blk : Nat → Option Nat} {bn bo : Nat} {rowv : Value} {pA : Option Addr} {pC : Nat}
theorem ours_d (hc : w.cell? ⟨d, 3, none⟩ = some (.bool true)) : Calls Try.prog 47 #[.pointer (some ⟨d, 0, none⟩)] w fun e w' => e = .returned (.bool true) ∧ w = w' := by
  go_enter Try.func47, Try.ntmps47
  go_wp2
  go_ret
  exact ⟨rfl, rfl⟩
/-- What a look answers. -/
def lookV (s : Disk.St) (loc : Nat → Nat) (has : List UInt8) (names : List (List UInt8)) : Value := .tuple #[if s.looked has names = 0 then Disk.ptrOf s.now loc has else .pointer none, .int .i64 (s.looked has names)]
theorem lookV_off {has : List UInt8} {names : List (List UInt8)} (h : s.on = false) : lookV s loc has names = .tuple #[.pointer none, .int .i64 24] := by
  simp [lookV, Disk.St.looked, h]
theorem lookV_bad {has : List UInt8} {names : List (List UInt8)} (h : s.on = true) {n : List UInt8} (hn : n ∈ names) (hb : Disk.isName n = false) : lookV s loc has names = .tuple #[.pointer none, .int .i64 20] := by
  have : (names.any fun n => !Disk.isName n) = true := List.any_eq_true.2 ⟨n, hn, by simp [hb]⟩
  simp [lookV, Disk.St.looked, h, this]
theorem looked_good {has : List UInt8} {names : List (List UInt8)} (h : s.on = true) (hn : ∀ n ∈ names, Disk.isName n = true) : s.looked has names = if has ≠ [] ∧ Disk.find s.now has = none then 21 else 0 := by
  have : (names.any fun n => !Disk.isName n) = false := by
    rw [← Bool.not_eq_true]
    intro hm
    obtain ⟨n, h1, h2⟩ := List.any_eq_true.1 hm
    rw [hn n h1] at h2
    cases h2
  simp [Disk.St.looked, h, this]
theorem lookV_gone {has : List UInt8} {names : List (List UInt8)} (h : s.on = true) (hn : ∀ n ∈ names, Disk.isName n = true) (h0 : has ≠ []) (hf : Disk.find s.now has = none) : lookV s loc has names = .tuple #[.pointer none, .int .i64 21] := by
  simp [lookV, looked_good h hn, h0, hf]
theorem lookV_ok {has : List UInt8} {names : List (List UInt8)} (h : s.on = true) (hn : ∀ n ∈ names, Disk.isName n = true) (h0 : has = [] ∨ Disk.find s.now has ≠ none) : lookV s loc has names = .tuple #[Disk.ptrOf s.now loc has, .int .i64 0] := by
  have : ¬ (has ≠ [] ∧ Disk.find s.now has = none) := fun ⟨a, b⟩ => h0.elim a fun h => h b
  simp [lookV, looked_good h hn, this]
/-- Names in memory. -/
def asNm (l : List ByteArray) : List (List UInt8) := l.map fun s => s.data.toList
set_option maxRecDepth 100000 in
set_option maxHeartbeats 1000000 in
theorem looked_any (has : ByteArray) (A : Option Addr) (n c : Nat) (l : List ByteArray) (S : Blocks) (H : Hid (DiskB w F d s loc blk bn bo rowv pA pC)) (hhas : has.size ≤ maxLen) (hn : Hid (n = l.length)) (hl : Hid (SliceAt Rep.str w S A c l)) (hS : Hid (∀ b, S b → b < w.heap.size)) (hnb : n ≤ 1099511627776) :
    Calls Try.prog 61 #[.pointer (some ⟨d, 0, none⟩), .string has, .slice A n c] w fun e w' => e = .returned (lookV s loc has.data.toList (asNm l)) ∧ Below w.heap.size w w' := by
  have c3 := H.out.cell 3 _ rfl
  have c4 := H.out.cell 4 _ rfl
  have hdl := H.out.lt d H.out.Fd
  obtain ⟨on, hon⟩ : ∃ b, s.on = b := ⟨_, rfl⟩
  rw [hon] at c4
  have HON := Lib.hid hon
  have hnc : n ≤ c := by rw [hn.out]; exact hl.out.len
  have hcm := hl.out.max
  clear hon
  cases on
  · go_enter Try.func61, Try.ntmps61
    go_wp2_with (go_at_call 47; refine (ours_d c3).mono ?_; rintro e w1 ⟨rfl, rfl⟩)
    go_ret2
    exact ⟨congrArg Ending.returned (lookV_off HON.out).symm, Below.refl _ _⟩
  · go_enter Try.func61, Try.ntmps61
    go_wp2_with (go_at_call 47; refine (ours_d c3).mono ?_; rintro e w1 ⟨rfl, rfl⟩)
    go_loopg [21, 9] n (fun k i _ wr => ∃ j : Nat, k = n - j ∧ j ≤ n ∧ i = .int .i64 j ∧ Hid (∀ x ∈ l.take j, Disk.isName x.data.toList = true) ∧ Hid (Below w.heap.size w wr))
    case atStart => exact ⟨0, rfl, by omega, rfl, Lib.hid (by simp), Lib.hid (Below.refl _ _)⟩
    case round =>
      obtain ⟨j, rfl, hj, rfl, HN, HB⟩ := hrel
      by_cases hjn : j < n
      · obtain ⟨g, o, cs, rfl, hg, hc, rfl, hsz⟩ := hl.out.at_ (i := j) (by have := hn.out; omega)
        obtain ⟨x, hx⟩ : ∃ x, x = l[j]'(by have := hn.out; omega) := ⟨_, rfl⟩
        rw [← hx] at hc hsz
        have HX := Lib.hid hx
        have hc1 := hc.one
        rw [show Rep.str.n = 1 from rfl, Nat.mul_one] at hc1
        have hcw : wr.cell? ⟨g, o + j, none⟩ = some (.string x) := (HB.out.cell (p := ⟨g, o + j, none⟩) (hS.out g hg)).trans hc1
        clear hc hc1 hx
        obtain ⟨q, hq⟩ : ∃ q, Disk.isName x.data.toList = q := ⟨_, rfl⟩
        have HQ := Lib.hid hq
        clear hq
        cases q
        · go_wp2_with (go_at_call 43; refine (isName_any x _ hsz).mono ?_; rintro e w2 ⟨rfl, hb2⟩; have HBB := Lib.hid hb2; clear hb2; rw [HQ.out])
          go_ret2
          exact ⟨congrArg Ending.returned (lookV_bad (names := asNm l) HON.out (n := x.data.toList) (List.mem_map.2 ⟨x, by rw [HX.out]; exact List.getElem_mem _, rfl⟩) HQ.out).symm, HB.out.trans (HBB.out.mono HB.out.size)⟩
        · go_wp2_with (go_at_call 43; refine (isName_any x _ hsz).mono ?_; rintro e w2 ⟨rfl, hb2⟩; have HBB := Lib.hid hb2; clear hb2; rw [HQ.out])
          go_roundg (n - (j + 1))
          case measure => omega
          case rel =>
            refine ⟨j + 1, rfl, by omega, by go_num, Lib.hid ?_, Lib.hid (HB.out.trans (HBB.out.mono HB.out.size))⟩
            intro y hy
            rw [List.take_succ_eq_append_getElem (by have := hn.out; omega), List.mem_append, List.mem_singleton] at hy
            rcases hy with hy | rfl
            · exact HN.out y hy
            · rw [← HX.out]; exact HQ.out
      · obtain rfl : j = n := by omega
        have hall : Hid (∀ m ∈ asNm l, Disk.isName m = true) := Lib.hid (by
          intro m hm
          obtain ⟨x, hx, rfl⟩ := List.mem_map.1 hm
          exact HN.out x (by rw [hn.out, List.take_length]; exact hx))
        have hlook := H.out.now.same (w' := wr) (HB.out.block bn (H.out.lt bn H.out.Fn))
        have hlk := (hlook.look (t := 23) (e := 84) Try.underlying9 Try.underlying23 (Try.zeroValue84 _) has hhas)
        have c0 : wr.cell? ⟨d, 0, none⟩ = some (.map (some bn)) := (HB.out.cell (p := ⟨d, 0, none⟩) hdl).trans (H.out.cell 0 _ rfl)
        have HL := Lib.hid hlook
        clear hlook c3 c4
        obtain ⟨p, hp⟩ : ∃ p, Disk.ptrOf s.now loc has.data.toList = p := ⟨_, rfl⟩
        rw [hp] at hlk
        by_cases h0 : has.data.toList = []
        · have he : has.toList.isEmpty = true := by rw [ByteArray.toList_eq, h0]; rfl
          have he2 : has.toList = [] := by rw [ByteArray.toList_eq, h0]
          have HP := Lib.hid hp
          have H0 := Lib.hid h0
          clear hp h0
          go_wp2_with fail
          go_ret2
          exact ⟨congrArg Ending.returned (by rw [lookV_ok HON.out hall.out (.inl H0.out), HP.out]; rfl), HB.out⟩
        · have he : has.toList.isEmpty = false := by
            rw [ByteArray.toList_eq]; cases e : has.data.toList with
            | nil => exact absurd e h0
            | cons => rfl
          have he2 : has.toList ≠ [] := by rw [ByteArray.toList_eq]; exact h0
          cases hf : Disk.find s.now has.data.toList with
          | none =>
            obtain rfl : p = .pointer none := by rw [← hp]; simp [Disk.ptrOf, hf]
            have HF := Lib.hid hf
            have H0 := Lib.hid h0
            clear hp h0 hf
            go_wp2_with fail
            go_ret2
            exact ⟨congrArg Ending.returned (lookV_gone HON.out hall.out H0.out HF.out).symm, HB.out⟩
          | some i =>
            obtain rfl : p = .pointer (some ⟨loc i, 0, none⟩) := by rw [← hp]; simp [Disk.ptrOf, hf]
            have HF := Lib.hid hf
            have H0 := Lib.hid h0
            have HP := Lib.hid hp
            clear hp h0 hf
            go_wp2_with fail
            go_ret2
            exact ⟨congrArg Ending.returned (by rw [lookV_ok HON.out hall.out (.inr (by rw [HF.out]; simp)), HP.out]; rfl), HB.out⟩
end
end Go.Proofs.Ytfommpbblpnljaa
