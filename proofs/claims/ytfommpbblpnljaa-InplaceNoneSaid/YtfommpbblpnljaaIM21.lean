/- Texts that lead to the claim, one behind the other: The looks ahead of every call. Condition: the counts are below 2^40. -/
import Derived.Test.YtfommpbblpnljaaIM20
import Derived.Test.YtfommpbblpnljaaIM2
namespace Go.Proofs.Ytfommpbblpnljaa
open Go.RowKit Go.ChangeShapes Go.WideShapes Go.Deep

namespace Disk
/-- The counts of a disk that has seen k calls at most. -/
def Small (k : Nat) (s : St) : Prop := 0 ≤ s.tries ∧ s.tries ≤ 8 * k ∧ 0 ≤ s.done ∧ s.done ≤ 8 * k ∧ s.row.length ≤ k
theorem Small.tried {k : Nat} {s : St} (h : Small k s) : 0 ≤ s.tried.1.tries ∧ s.tried.1.tries ≤ 8 * k + 1 ∧ s.tried.1.done = s.done ∧ s.tried.1.row = s.row := by
  obtain ⟨h1, h2, h3, h4, h5⟩ := h
  have ⟨a1, a2, _⟩ := tried_kept s
  have b := (tried_tries s).1
  refine ⟨?_, ?_, a2, a1⟩ <;> omega
theorem call_1 {s : St} {names : List Nm} {has : Nm} {f : St → St × Int} (h : s.looked [] names ≠ 0) : s.call names has f = (s, s.looked [] names) := by unfold St.call; rw [if_pos h]
theorem call_2 {s : St} {names : List Nm} {has : Nm} {f : St → St × Int} (h : s.looked [] names = 0) (h2 : s.looked has [] ≠ 0) : s.call names has f = (s, s.looked has []) := by
  unfold St.call; rw [if_neg (by simpa using h), if_pos h2]
theorem call_3 {s : St} {names : List Nm} {has : Nm} {f : St → St × Int} (h : s.looked [] names = 0) (h2 : s.looked has [] = 0) (h3 : s.tried.2 ≠ 0) : s.call names has f = s.tried := by
  rw [call_go h h2, if_pos h3]
theorem call_4 {s : St} {names : List Nm} {has : Nm} {f : St → St × Int} (h : s.looked [] names = 0) (h2 : s.looked has [] = 0) (h3 : s.tried.2 = 0) : s.call names has f = f s.tried.1 := by
  rw [call_go h h2, if_neg (by simpa using h3)]
theorem names_of {s : St} {names : List Nm} (h : s.looked [] names = 0) : s.on = true ∧ ∀ n ∈ names, isName n = true := by
  refine ⟨?_, looked_name h⟩
  cases e : s.on
  · simp [St.looked, e] at h
  · rfl
theorem looked_nil {s : St} {has : Nm} (h : s.looked has [] = 0) : s.on = true := by
  cases e : s.on
  · simp [St.looked, e] at h
  · rfl
end Disk
/-- What a call that answers a number leaves. -/
def DiskCall (w : World) (F : Blocks) (d : Nat) (r : Disk.St × Int) (e : Ending) (w' : World) : Prop := e = .returned (.int .i64 r.2) ∧ DiskAt w' (grow F w w') d r.1 ∧ Only F w w'

section
variable {w w' : World} {F G : Blocks} {d : Nat} {s : Disk.St} {loc : Nat → Nat} {blk : Nat → Option Nat} {bn bo : Nat} {rowv : Value} {pA : Option Addr} {pC : Nat}
theorem DiskB.at_ (h : DiskB w F d s loc blk bn bo rowv pA pC) : DiskAt w F d s := ⟨loc, blk, bn, bo, rowv, pA, pC, h⟩
/-- A disk behind a call, its blocks those of before and new ones. -/
theorem DiskB.ends {w0 w1 : World} (h : DiskB w (grow F w1 w') d s loc blk bn bo rowv pA pC) (h0 : ∀ b, F b → b < w0.heap.size) (h1 : w0.heap.size ≤ w1.heap.size) (h2 : w'.heap.size ≤ w.heap.size) (h3 : w0.heap.size ≤ w.heap.size) : DiskAt w (grow F w0 w) d s :=
  (h.up (G := grow F w0 w) (fun _ hb => hb.elim .inl fun ⟨a, c⟩ => .inr ⟨Nat.le_trans h1 a, Nat.lt_of_lt_of_le c h2⟩) (grow_lt h0 h3)).at_
theorem DiskB.ends0 {w0 : World} (h : DiskB w F d s loc blk bn bo rowv pA pC) (h0 : ∀ b, F b → b < w0.heap.size) (h3 : w0.heap.size ≤ w.heap.size) : DiskAt w (grow F w0 w) d s :=
  (h.up (G := grow F w0 w) (fun _ hb => .inl hb) (grow_lt h0 h3)).at_
/-- One thing more is done. -/
theorem DiskB.more (h : DiskB w F d s loc blk bn bo rowv pA pC) : DiskB (w.setCell ⟨d, 8, none⟩ (.int .i64 (s.done + 1))) F d s.more loc blk bn bo rowv pA pC :=
  h.header (Only.setCell (Only.refl (fun x => x = d) w) (.inl rfl) _) (by simp [World.setCell, Array.getElem?_modify, h.hd, Disk.St.more]) rfl rfl rfl rfl rfl

section
variable (n : ByteArray) (H : Hid (DiskB w F d s loc blk bn bo rowv pA pC)) (hn : n.size ≤ maxLen)
include H hn
theorem look1_any (W : World) (hW : Below w.heap.size w W) : Calls Try.prog 61 #[.pointer (some ⟨d, 0, none⟩), .string ⟨#[]⟩, .slice (some ⟨W.heap.size, 0, none⟩) 1 1] (W.alloc (.cells #[.string n] 9)) fun e w' =>
    e = .returned (lookV s loc [] [n.data.toList]) ∧ Below w.heap.size w w' := by
  have hb := hW.alloc hW.size (.cells #[.string n] 9)
  refine (looked_any (w := W.alloc (.cells #[.string n] 9)) ⟨#[]⟩ _ 1 1 [n] _ (Lib.hid (H.out.far hb)) (by decide) (Lib.hid rfl) (Lib.hid (SliceAt.new1 Rep.str W 9 #[.string n] n nob ⟨rfl, hn⟩ fun _ h => h.elim)) (Lib.hid ?_) (by omega)).mono ?_
  · rintro b (rfl | h)
    · simp
    · exact h.elim
  · rintro e w' ⟨he, h⟩
    exact ⟨he, hb.trans (h.mono hb.size)⟩
theorem look1_bad {q : Int} (hq : s.looked [] [n.data.toList] = q) (h0 : q ≠ 0) (W : World) (hW : Below w.heap.size w W) : Calls Try.prog 61 #[.pointer (some ⟨d, 0, none⟩), .string ⟨#[]⟩, .slice (some ⟨W.heap.size, 0, none⟩) 1 1] (W.alloc (.cells #[.string n] 9)) fun e w' =>
    e = .returned (.tuple #[.pointer none, .int .i64 q]) ∧ Below w.heap.size w w' :=
  (look1_any n H hn W hW).mono fun e w' ⟨he, h⟩ => ⟨by rw [he]; simp [lookV, hq, h0], h⟩
theorem look1_ok (hq : s.looked [] [n.data.toList] = 0) (W : World) (hW : Below w.heap.size w W) : Calls Try.prog 61 #[.pointer (some ⟨d, 0, none⟩), .string ⟨#[]⟩, .slice (some ⟨W.heap.size, 0, none⟩) 1 1] (W.alloc (.cells #[.string n] 9)) fun e w' =>
    e = .returned (.tuple #[Disk.ptrOf s.now loc [], .int .i64 0]) ∧ Below w.heap.size w w' :=
  (look1_any n H hn W hW).mono fun e w' ⟨he, h⟩ => ⟨by rw [he]; simp [lookV, hq], h⟩
theorem look2_any (W : World) (hW : Below w.heap.size w W) : Calls Try.prog 61 #[.pointer (some ⟨d, 0, none⟩), .string n, .slice none 0 0] W fun e w' =>
    e = .returned (lookV s loc n.data.toList []) ∧ Below w.heap.size w w' := by
  refine (looked_any (w := W) n none 0 0 [] nob (Lib.hid (H.out.far hW)) hn (Lib.hid rfl) (Lib.hid (SliceAt.nil _ _ _)) (Lib.hid fun _ h => h.elim) (by omega)).mono ?_
  rintro e w' ⟨he, h⟩
  exact ⟨he, hW.trans (h.mono hW.size)⟩
theorem look2_bad {q : Int} (hq : s.looked n.data.toList [] = q) (h0 : q ≠ 0) (W : World) (hW : Below w.heap.size w W) : Calls Try.prog 61 #[.pointer (some ⟨d, 0, none⟩), .string n, .slice none 0 0] W fun e w' =>
    e = .returned (.tuple #[.pointer none, .int .i64 q]) ∧ Below w.heap.size w w' :=
  (look2_any n H hn W hW).mono fun e w' ⟨he, h⟩ => ⟨by rw [he]; simp [lookV, hq, h0], h⟩
theorem look2_ok (hq : s.looked n.data.toList [] = 0) {i : Nat} (hi : Disk.find s.now n.data.toList = some i) (W : World) (hW : Below w.heap.size w W) : Calls Try.prog 61 #[.pointer (some ⟨d, 0, none⟩), .string n, .slice none 0 0] W fun e w' =>
    e = .returned (.tuple #[.pointer (some ⟨loc i, 0, none⟩), .int .i64 0]) ∧ Below w.heap.size w w' :=
  (look2_any n H hn W hW).mono fun e w' ⟨he, h⟩ => ⟨by rw [he]; simp [lookV, hq, Disk.ptrOf, hi], h⟩
end
/-- What the tries make of the disk, in letters. -/
structure Tried (s s3 : Disk.St) (q : Int) : Prop where
  eq : s.tried = (s3, q)
  all : s3.all = s.all
  now : s3.now = s.now
  old : s3.old = s.old
  row : s3.row = s.row
  done : s3.done = s.done
  room : s3.room = s.room
theorem Tried.mk' (s : Disk.St) : ∃ s3 q, Tried s s3 q := by
  obtain ⟨h1, h2, h3, h4, h5, h6, h7, h8⟩ := Disk.tried_kept s
  exact ⟨_, _, rfl, h3, h4, h5, h1, h2, h6⟩
theorem tried_at (H : Hid (DiskB w F d s loc blk bn bo rowv pA pC)) {k : Nat} (hk : Hid (Disk.Small k s)) (hkb : k ≤ 1099511627776) {s3 : Disk.St} {q : Int} (hT : Hid (Tried s s3 q)) (W : World) (hW : Below w.heap.size w W) :
    Calls Try.prog 63 #[.pointer (some ⟨d, 0, none⟩)] W fun e w' => e = .returned (.int .i64 q) ∧ DiskB w' F d s3 loc blk bn bo rowv pA pC ∧ Only F w w' := by
  obtain ⟨a1, a2, -⟩ := hk.out
  refine (tried_b (Lib.hid (H.out.far hW)) (by omega)).mono ?_
  rintro e w' ⟨he, hd, ho⟩
  rw [hT.out.eq] at he hd
  exact ⟨he, hd, (Only.of_below hW F).trans ho fun x hx => .inl (hx ▸ H.out.Fd)⟩


section
variable (n m : ByteArray) (H : Hid (DiskB w F d s loc blk bn bo rowv pA pC)) (hn : n.size ≤ maxLen) (hm : m.size ≤ maxLen)
include H hn hm
theorem look1b_any (W : World) (hW : Below w.heap.size w W) : Calls Try.prog 61 #[.pointer (some ⟨d, 0, none⟩), .string ⟨#[]⟩, .slice (some ⟨W.heap.size, 0, none⟩) 2 2] (W.alloc (.cells #[.string n, .string m] 9)) fun e w' =>
    e = .returned (lookV s loc [] [n.data.toList, m.data.toList]) ∧ Below w.heap.size w w' := by
  have hb := hW.alloc hW.size (.cells #[.string n, .string m] 9)
  refine (looked_any (w := W.alloc (.cells #[.string n, .string m] 9)) ⟨#[]⟩ _ 2 2 [n, m] _ (Lib.hid (H.out.far hb)) (by decide) (Lib.hid rfl) (Lib.hid (SliceAt.newRow Rep.str W 9 #[.string n, .string m] [n, m] nob 2 2 rfl (Nat.le_refl _) (by decide) (fun i hi => ?_) fun _ h => h.elim)) (Lib.hid ?_) (by omega)).mono ?_
  · match i, hi with
    | 0, _ => exact ⟨rfl, hn⟩
    | 1, _ => exact ⟨rfl, hm⟩
  · rintro b (rfl | h)
    · simp
    · exact h.elim
  · rintro e w' ⟨he, h⟩
    exact ⟨he, hb.trans (h.mono hb.size)⟩
theorem look1b_bad {q : Int} (hq : s.looked [] [n.data.toList, m.data.toList] = q) (h0 : q ≠ 0) (W : World) (hW : Below w.heap.size w W) : Calls Try.prog 61 #[.pointer (some ⟨d, 0, none⟩), .string ⟨#[]⟩, .slice (some ⟨W.heap.size, 0, none⟩) 2 2] (W.alloc (.cells #[.string n, .string m] 9)) fun e w' =>
    e = .returned (.tuple #[.pointer none, .int .i64 q]) ∧ Below w.heap.size w w' :=
  (look1b_any n m H hn hm W hW).mono fun e w' ⟨he, h⟩ => ⟨by rw [he]; simp [lookV, hq, h0], h⟩
theorem look1b_ok (hq : s.looked [] [n.data.toList, m.data.toList] = 0) (W : World) (hW : Below w.heap.size w W) : Calls Try.prog 61 #[.pointer (some ⟨d, 0, none⟩), .string ⟨#[]⟩, .slice (some ⟨W.heap.size, 0, none⟩) 2 2] (W.alloc (.cells #[.string n, .string m] 9)) fun e w' =>
    e = .returned (.tuple #[Disk.ptrOf s.now loc [], .int .i64 0]) ∧ Below w.heap.size w w' :=
  (look1b_any n m H hn hm W hW).mono fun e w' ⟨he, h⟩ => ⟨by rw [he]; simp [lookV, hq], h⟩
end
section
variable (H : Hid (DiskB w F d s loc blk bn bo rowv pA pC))
include H
theorem look0_bad {q : Int} (hq : s.looked [] [] = q) (h0 : q ≠ 0) (W : World) (hW : Below w.heap.size w W) : Calls Try.prog 61 #[.pointer (some ⟨d, 0, none⟩), .string ⟨#[]⟩, .slice none 0 0] W fun e w' =>
    e = .returned (.tuple #[.pointer none, .int .i64 q]) ∧ Below w.heap.size w w' :=
  (look2_any ⟨#[]⟩ H (by decide) W hW).mono fun e w' ⟨he, h⟩ => ⟨by rw [he]; simp [lookV, hq, h0], h⟩
theorem look0_ok (hq : s.looked [] [] = 0) (W : World) (hW : Below w.heap.size w W) : Calls Try.prog 61 #[.pointer (some ⟨d, 0, none⟩), .string ⟨#[]⟩, .slice none 0 0] W fun e w' =>
    e = .returned (.tuple #[Disk.ptrOf s.now loc [], .int .i64 0]) ∧ Below w.heap.size w w' :=
  (look2_any ⟨#[]⟩ H (by decide) W hW).mono fun e w' ⟨he, h⟩ => ⟨by rw [he]; simp [lookV, hq], h⟩
end
namespace Disk
theorem remove_1 {s : St} {n : Nm} (h : s.looked [] [n] ≠ 0) : s.remove n = (s, s.looked [] [n]) := by unfold St.remove; rw [if_pos h]
theorem remove_2 {s : St} {n : Nm} (h : s.looked [] [n] = 0) (h2 : s.looked n [] ≠ 0) : s.remove n = (s, s.looked n []) := by unfold St.remove; rw [if_neg (by simpa using h), if_pos h2]
theorem remove_3 {s : St} {n : Nm} (h : s.looked [] [n] = 0) (h2 : s.looked n [] = 0) (h3 : s.tried.2 = 24) : s.remove n = s.tried := by unfold St.remove; rw [if_neg (by simpa using h), if_neg (by simpa using h2), if_pos h3]
theorem remove_4 {s : St} {n : Nm} (h : s.looked [] [n] = 0) (h2 : s.looked n [] = 0) (h3 : s.tried.2 ≠ 24) : s.remove n = ((s.tried.1.changes ⟨n, [], 0⟩).more, 0) := by unfold St.remove; rw [if_neg (by simpa using h), if_neg (by simpa using h2), if_neg h3]
end Disk
theorem sv_str (n : ByteArray) : sv n.data.toList = .string n := rfl
theorem nm_len {n : ByteArray} (h : n.size ≤ maxLen) : n.data.toList.length ≤ maxLen := by rw [Array.length_toList]; exact h
theorem changes_from (n : ByteArray) (hn : n.size ≤ maxLen) (h0 : n.data.toList ≠ []) (H : Hid (DiskB w F d s loc blk bn bo rowv pA pC)) (hf : Hid (Disk.Fine s)) (hrow : s.row.length ≤ 1099511627776) :
    Calls Try.prog 64 #[.pointer (some ⟨d, 0, none⟩), .agg #[.string n, .string ⟨#[]⟩, .pointer none]] w fun e w' => e = .returned (.tuple #[]) ∧ (∃ rowv', DiskB w' (grow F w w') d (s.changes ⟨n.data.toList, [], 0⟩) loc blk bn bo rowv' pA pC) ∧ Only F w w' :=
  changes_b ⟨n.data.toList, [], 0⟩ H hf (nm_len hn) (Nat.zero_le _) (Lib.hid (.inl h0)) hrow
theorem changes_mv (n m : ByteArray) (i : Nat) (hn : n.size ≤ maxLen) (hm : m.size ≤ maxLen) (h0 : n.data.toList ≠ []) (h1 : m.data.toList ≠ []) (H : Hid (DiskB w F d s loc blk bn bo rowv pA pC)) (hf : Hid (Disk.Fine s)) (hrow : s.row.length ≤ 1099511627776) :
    Calls Try.prog 64 #[.pointer (some ⟨d, 0, none⟩), .agg #[.string n, .string m, .pointer (some ⟨loc i, 0, none⟩)]] w fun e w' => e = .returned (.tuple #[]) ∧ (∃ rowv', DiskB w' (grow F w w') d (s.changes ⟨n.data.toList, m.data.toList, i⟩) loc blk bn bo rowv' pA pC) ∧ Only F w w' := by
  have := changes_b ⟨n.data.toList, m.data.toList, i⟩ H hf (nm_len hn) (nm_len hm) (Lib.hid (.inl h0)) hrow
  simp only [ptrTo, if_neg h1] at this
  exact this
/-- A new file that comes to stand under a name. -/
theorem changes_new (n : ByteArray) (hn : n.size ≤ maxLen) (h1 : n.data.toList ≠ []) (H : Hid (DiskB w F d s loc blk bn bo rowv pA pC)) (hf : Hid (Disk.Fine s)) (hrow : s.row.length ≤ 1099511627776) :
    Calls Try.prog 64 #[.pointer (some ⟨d, 0, none⟩), .agg #[.string ⟨#[]⟩, .string n, .pointer (some ⟨w.heap.size, 0, none⟩)]] (w.alloc (.cells #[.slice none 0 0, .int .i64 0, .bool false] 87)) fun e w' =>
      e = .returned (.tuple #[]) ∧ (∃ loc' blk' rowv', DiskB w' (grow F w w') d (Disk.St.changes { s with all := s.all ++ [⟨[], 0, false⟩] } ⟨[], n.data.toList, s.all.length⟩) loc' blk' bn bo rowv' pA pC) ∧ Only F w w' := by
  have h4 := H.out.newFile hf.out rfl
  obtain ⟨W, hW⟩ : ∃ W, W = w.alloc (.cells #[.slice none 0 0, .int .i64 0, .bool false] 87) := ⟨_, rfl⟩
  rw [← hW] at h4 ⊢
  have hs : w.heap.size ≤ W.heap.size := by rw [hW]; simp
  have hO : Only F w W := by rw [hW]; exact (Only.refl F w).alloc _
  have := changes_b ⟨[], n.data.toList, s.all.length⟩ (Lib.hid h4) (Lib.hid (Disk.fine_new hf.out)) (Nat.zero_le _) (nm_len hn) (Lib.hid (.inr h1)) hrow
  simp only [ptrTo, if_neg h1, if_true] at this
  refine Calls.mono this ?_
  rintro e w' ⟨he, ⟨rowv', hd⟩, ho⟩
  have hs2 := ho.size
  refine ⟨he, ⟨_, _, rowv', hd.up (fun b hb => ?_) (grow_lt H.out.lt (Nat.le_trans hs hs2))⟩, hO.trans ho fun x hx => ?_⟩
  · rcases hb with (hb | ⟨h1, h2⟩) | ⟨h1, h2⟩
    · exact .inl hb
    · exact .inr ⟨h1, Nat.lt_of_lt_of_le h2 hs2⟩
    · exact .inr ⟨Nat.le_trans hs h1, h2⟩
  · rcases hx with hx | ⟨hx, -⟩
    · exact .inl hx
    · exact .inr hx
theorem Tried.fine {s3 : Disk.St} {q : Int} (h : Tried s s3 q) (hf : Disk.Fine s) : Disk.Fine s3 := by
  have := Disk.fine_tried hf
  rwa [h.eq] at this
def szOf (s : Disk.St) (i : Nat) : Nat := (s.all[i]?.map (·.bytes.length)).getD 0
theorem sum_le (f : Disk.Nm → Nat) (hf : ∀ k, f k ≤ 16777216) : ∀ l : List Disk.Nm, (l.map f).sum ≤ l.length * 16777216
  | [] => by simp
  | k :: l => by
    have := sum_le f hf l
    have := hf k
    simp only [List.map_cons, List.sum_cons, List.length_cons]
    omega
theorem sum_bound (hf : Disk.Fine s) (seen : List Disk.Nm) (hn : seen.Nodup) (hm : ∀ k ∈ seen, k ∈ Disk.keys s.now) : (seen.map (szAt s.now (szOf s))).sum ≤ 1073741824 := by
  have h1 : seen.length ≤ 64 := by
    have h := hn.length_le_of_subset (l₂ := Disk.keys s.now) hm
    have : (Disk.keys s.now).length = s.now.length := by simp [Disk.keys]
    have := hf.nowL
    omega
  have h2 := sum_le (szAt s.now (szOf s)) (fun k => by
    unfold szAt szOf
    cases e : Disk.find s.now k with
    | none => simp
    | some i =>
      cases e2 : s.all[i]? with
      | none => simp [e2]
      | some d => simpa [e2] using hf.big d (List.mem_of_getElem? e2)) seen
  omega
theorem sum_d (H : DiskB w F d s loc blk bn bo rowv pA pC) (hf : Disk.Fine s) :
    Calls Try.prog 44 #[.pointer (some ⟨d, 0, none⟩)] w fun e w' => e = .returned (.int .i64 (s.size s.now : Nat)) ∧ Below w.heap.size w w' := by
  refine (sum_any d bn _ s.now loc (szOf s) w (Lib.hid H.now) (H.cell 0 _ rfl) (Lib.hid fun i hi => ?_) (H.lt d H.Fd) (Lib.hid fun seen a b => Nat.le_trans (sum_bound hf seen a b) (by omega))).mono ?_
  · have hl := hf.nowI i hi
    obtain ⟨A, c, h1, -⟩ := H.files i s.all[i] (List.getElem?_eq_getElem hl)
    refine ⟨H.lt _ (H.Fl i hl), A, c, ?_⟩
    have : szOf s i = s.all[i].bytes.length := by simp [szOf, List.getElem?_eq_getElem hl]
    rw [this]
    exact (cell_of_row w _ 0 _ _ (0, 0) h1).trans rfl
  · rintro e w' ⟨seen, a1, a2, a3, rfl, hb⟩
    refine ⟨?_, hb⟩
    have : (seen.map (szAt s.now (szOf s))).sum = s.size s.now := by
      rw [← Disk.sum_size hf.good.nowR a1 a2 a3]
      congr 1
      refine List.map_congr_left fun k _ => ?_
      unfold szAt Disk.sizeAt szOf
      cases Disk.find s.now k <;> rfl
    rw [this]
theorem size_le (hf : Disk.Fine s) : s.size s.now ≤ 1073741824 := by
  have hn : (Disk.keys s.now).Nodup := by
    unfold Disk.keys List.Nodup
    rw [List.pairwise_map]
    exact hf.good.nowR.imp fun hab e => by rw [e] at hab; exact Disk.lt_irrefl _ hab
  rw [← Disk.sum_size hf.good.nowR hn (fun _ h => h) (fun _ h => h)]
  have := sum_bound hf _ hn (fun _ h => h)
  refine Nat.le_trans (Nat.le_of_eq ?_) this
  congr 1
  refine List.map_congr_left fun k _ => ?_
  unfold szAt Disk.sizeAt szOf
  cases Disk.find s.now k <;> rfl
end
end Go.Proofs.Ytfommpbblpnljaa
