/- Texts that lead to the claim, one behind the other: Remove, its two maps where they were; a disk's own blocks and no others. Condition: the counts are below 2^40. -/
import Derived.Test.YtncpeogkccjmcaaGreatDoorTK12
import Derived.RangeFuncNested
import Derived.Deep.RegionHeld3
import Derived.IntWalk
namespace Go.Proofs.YtncpeogkccjmcaaGreatDoor
open Go.RowKit Go.ChangeShapes Go.WideShapes Go.Deep

section
variable {w w' : World} {F G : Blocks} {d : Nat} {s : Disk.St} {loc : Nat → Nat} {blk : Nat → Option Nat} {bn bo : Nat} {rowv : Value} {pA : Option Addr} {pC : Nat}
/-- The blocks of a disk, none besides. -/
def tightF (d : Nat) (s : Disk.St) (loc : Nat → Nat) (blk : Nat → Option Nat) (bn bo : Nat) (rowv : Value) (pA : Option Addr) (pC : Nat) : Blocks := fun b =>
  b = d ∨ b = bn ∨ b = bo ∨ rowv.ownBlock = some b ∨ (s.plan ≠ [] ∧ (Value.slice pA s.plan.length pC).ownBlock = some b) ∨ (∃ i, i < s.all.length ∧ loc i = b) ∨ (∃ i, i < s.all.length ∧ blk i = some b)
theorem DiskB.tight (h : DiskB w F d s loc blk bn bo rowv pA pC) : DiskB w (tightF d s loc blk bn bo rowv pA pC) d s loc blk bn bo rowv pA pC :=
  { h with
    Fd := .inl rfl, Fn := .inr (.inl rfl), Fo := .inr (.inr (.inl rfl)), Fr := fun b hb => .inr (.inr (.inr (.inl hb))), Fp := fun b h0 hb => .inr (.inr (.inr (.inr (.inl ⟨h0, hb⟩)))),
    Fl := fun i hi => .inr (.inr (.inr (.inr (.inr (.inl ⟨i, hi, rfl⟩))))), Fb := fun i b hi hb => .inr (.inr (.inr (.inr (.inr (.inr ⟨i, hi, hb⟩))))),
    lt := fun b hb => by
      rcases hb with rfl | rfl | rfl | hb | ⟨h0, hb⟩ | ⟨i, hi, rfl⟩ | ⟨i, hi, hb⟩
      · exact h.lt _ h.Fd
      · exact h.lt _ h.Fn
      · exact h.lt _ h.Fo
      · exact h.lt _ (h.Fr b hb)
      · exact h.lt _ (h.Fp b h0 hb)
      · exact h.lt _ (h.Fl i hi)
      · exact h.lt _ (h.Fb i b hi hb) }
/-- None of them is a block of strings. -/
theorem DiskB.no_str (h : DiskB w F d s loc blk bn bo rowv pA pC) : Other w (tightF d s loc blk bn bo rowv pA pC) 9 := by
  intro b hb
  rcases hb with rfl | rfl | rfl | hb | ⟨h0, hb⟩ | ⟨i, hi, rfl⟩ | ⟨i, hi, hb⟩
  · exact Other.one h.hd (by decide) _ rfl
  · obtain ⟨es, c, hm⟩ := folder_map h.now; exact Other.map hm _ _ rfl
  · obtain ⟨es, c, hm⟩ := folder_map h.old; exact Other.map hm _ _ rfl
  · exact Other.own h.row (by decide) _ hb.symm
  · rcases h.plan with hp | hp
    · exact absurd hp.1 h0
    · exact Other.own hp (by decide) _ hb.symm
  · obtain ⟨A, c, h1, h2⟩ := h.files i _ (List.getElem?_eq_getElem hi); exact Other.one h1 (by decide) _ rfl
  · obtain ⟨A, c, h1, h2⟩ := h.files i _ (List.getElem?_eq_getElem hi); exact Other.row h2 (by decide) _ hb.symm
/-- None but its maps is no cells. -/
theorem DiskB.cells (h : DiskB w F d s loc blk bn bo rowv pA pC) {b : Nat} (hb : tightF d s loc blk bn bo rowv pA pC b) : b = bn ∨ b = bo ∨ ∃ cs t f, w.heap[b]? = some (.cells cs t f) := by
  rcases hb with rfl | rfl | rfl | hb | ⟨h0, hb⟩ | ⟨i, hi, rfl⟩ | ⟨i, hi, hb⟩
  · exact .inr (.inr ⟨_, _, _, h.hd⟩)
  · exact .inl rfl
  · exact .inr (.inl rfl)
  · obtain ⟨cur, hc⟩ := h.row.content hb; exact .inr (.inr ⟨_, _, _, hc⟩)
  · rcases h.plan with hp | hp
    · exact absurd hp.1 h0
    · obtain ⟨cur, hc⟩ := hp.content hb; exact .inr (.inr ⟨_, _, _, hc⟩)
  · obtain ⟨A, c, h1, h2⟩ := h.files i _ (List.getElem?_eq_getElem hi); exact .inr (.inr ⟨_, _, _, h1⟩)
  · obtain ⟨A, c, h1, h2⟩ := h.files i _ (List.getElem?_eq_getElem hi); obtain ⟨cur, hc⟩ := h2.ty hb; exact .inr (.inr ⟨_, _, _, hc⟩)
/-- A call of the disk that leaves its maps and its plan where they are. -/
def DiskCallB (w : World) (F : Blocks) (d : Nat) (loc : Nat → Nat) (blk : Nat → Option Nat) (bn bo : Nat) (pA : Option Addr) (pC : Nat) (r : Disk.St × Int) (e : Ending) (w' : World) : Prop :=
  e = .returned (.int .i64 r.2) ∧ (∃ rowv', DiskB w' (grow F w w') d r.1 loc blk bn bo rowv' pA pC) ∧ Only F w w'
theorem DiskB.endsB {w0 w1 : World} (h : DiskB w (grow F w1 w') d s loc blk bn bo rowv pA pC) (h0 : ∀ b, F b → b < w0.heap.size) (h1 : w0.heap.size ≤ w1.heap.size) (h2 : w'.heap.size ≤ w.heap.size) (h3 : w0.heap.size ≤ w.heap.size) : ∃ rowv', DiskB w (grow F w0 w) d s loc blk bn bo rowv' pA pC :=
  ⟨_, h.up (G := grow F w0 w) (fun _ hb => hb.elim .inl fun ⟨a, c⟩ => .inr ⟨Nat.le_trans h1 a, Nat.lt_of_lt_of_le c h2⟩) (grow_lt h0 h3)⟩
theorem DiskB.ends0B {w0 : World} (h : DiskB w F d s loc blk bn bo rowv pA pC) (h0 : ∀ b, F b → b < w0.heap.size) (h3 : w0.heap.size ≤ w.heap.size) : ∃ rowv', DiskB w (grow F w0 w) d s loc blk bn bo rowv' pA pC :=
  ⟨_, h.up (G := grow F w0 w) (fun _ hb => .inl hb) (grow_lt h0 h3)⟩
set_option maxRecDepth 100000 in
set_option maxHeartbeats 2000000 in
theorem remove_at (n : ByteArray) (hn : n.size ≤ maxLen) (H : Hid (DiskB w F d s loc blk bn bo rowv pA pC)) (hf : Hid (Disk.Fine s)) {k : Nat} (hk : Hid (Disk.Small k s)) (hkb : k ≤ 1099511627776) :
    Calls Tryz.prog 30 #[.pointer (some ⟨d, 0, none⟩), .string n] w (DiskCallB w F d loc blk bn bo pA pC (s.remove n.data.toList)) := by
  have hlt := Lib.hid H.out.lt
  have hb0 := Below.refl w.heap.size w
  obtain ⟨q1, hq1⟩ : ∃ q, s.looked [] [n.data.toList] = q := ⟨_, rfl⟩
  by_cases h1 : q1 = 0
  · subst h1
    have HQ1 := Lib.hid hq1
    obtain ⟨q2, hq2⟩ : ∃ q, s.looked n.data.toList [] = q := ⟨_, rfl⟩
    by_cases h2 : q2 = 0
    · subst h2
      have HQ2 := Lib.hid hq2
      obtain ⟨i, hi⟩ := Disk.looked_file (Disk.isName_ne ((Disk.names_of hq1).2 _ (by simp))) hq2
      have HI := Lib.hid hi
      obtain ⟨s3, q3, hT⟩ := Tried.mk' s
      have HT := Lib.hid hT
      clear hq1 hq2 hT hi
      by_cases h3 : q3 ≠ 24
      · have h3b : (q3 == 24) = false := by simpa using h3
        have HE := Lib.hid (Disk.remove_4 HQ1.out HQ2.out (by rw [HT.out.eq]; exact h3))
        go_enter Tryz.func30, Tryz.ntmps30
        go_wp2_with fail
        refine (look1_ok n H hn HQ1.out w hb0).mono ?_
        rintro e w1 ⟨rfl, hb1⟩
        go_wp2_with fail
        refine (look2_ok n H hn HQ2.out HI.out w1 hb1).mono ?_
        rintro e w2 ⟨rfl, hb2⟩
        go_wp2_with fail
        refine (tried_at H hk hkb HT w2 hb2).mono ?_
        rintro e w9 ⟨rfl, hd3, ho3⟩
        have HD3 := Lib.hid hd3
        have HO3 := Lib.hid ho3
        clear hd3 ho3
        have HF3 := Lib.hid (HT.out.fine hf.out)
        have hne1 := Disk.isName_ne ((Disk.names_of HQ1.out).2 n.data.toList (by simp))
        have HNE1 := Lib.hid hne1
        clear hne1
        go_wp2_with fail
        refine (changes_from n hn HNE1.out HD3 HF3 (by rw [HT.out.row]; obtain ⟨-, -, -, -, a⟩ := hk.out; omega)).mono ?_
        rintro e w10 ⟨rfl, ⟨rowv', hd10⟩, ho10⟩
        have HD10 := Lib.hid hd10
        have HO10 := Lib.hid ho10
        clear hd10 ho10
        have k8 : w10.cell? ⟨d, 8, none⟩ = some (.int .i64 s3.done) := HD10.out.cell 8 _ rfl
        have kf8 := HD10.out.frozen 8
        obtain ⟨dn, hdn⟩ : ∃ x, x = s3.done := ⟨_, rfl⟩
        rw [← hdn] at k8
        have hdn1 : 0 ≤ dn ∧ dn ≤ 8796093022208 := by rw [hdn, HT.out.done]; obtain ⟨-, -, a, b, -⟩ := hk.out; omega
        obtain ⟨hdn1, hdn2⟩ := hdn1
        have HDN := Lib.hid hdn
        clear hdn
        go_wp2_with fail
        go_ret
        refine ⟨congrArg Ending.returned (by rw [HE.out]; rfl), ?_, ?_⟩
        · rw [HE.out, HT.out.eq, HDN.out]
          exact HD10.out.more.endsB hlt.out HO3.out.size (by simp [World.setCell]) (by have := HO3.out.size; have := HO10.out.size; simp [World.setCell]; omega)
        · exact (HO3.out.trans HO10.out fun x hx => .inl hx).setCell (.inl HD3.out.Fd) _
      · obtain rfl : q3 = 24 := Decidable.not_not.1 h3
        have HE := Lib.hid (Disk.remove_3 HQ1.out HQ2.out (by rw [HT.out.eq]))
        clear h3
        go_enter Tryz.func30, Tryz.ntmps30
        go_wp2_with fail
        refine (look1_ok n H hn HQ1.out w hb0).mono ?_
        rintro e w1 ⟨rfl, hb1⟩
        go_wp2_with fail
        refine (look2_ok n H hn HQ2.out HI.out w1 hb1).mono ?_
        rintro e w2 ⟨rfl, hb2⟩
        go_wp2_with fail
        refine (tried_at H hk hkb HT w2 hb2).mono ?_
        rintro e w9 ⟨rfl, hd3, ho3⟩
        have HD3 := Lib.hid hd3
        have HO3 := Lib.hid ho3
        clear hd3 ho3
        go_wp2_with fail
        go_ret
        refine ⟨congrArg Ending.returned (by rw [HE.out, HT.out.eq]; rfl), ?_, HO3.out⟩
        rw [HE.out, HT.out.eq]
        exact HD3.out.ends0B hlt.out HO3.out.size
    · have h2b : (q2 != 0) = true := by simpa using h2
      have HE : Hid (s.remove n.data.toList = (s, s.looked n.data.toList [])) := Lib.hid (Disk.remove_2 HQ1.out (by rw [hq2]; exact h2))
      have HQ2 := Lib.hid hq2
      clear hq1 hq2
      go_enter Tryz.func30, Tryz.ntmps30
      go_wp2_with fail
      refine (look1_ok n H hn HQ1.out w hb0).mono ?_
      rintro e w1 ⟨rfl, hb1⟩
      go_wp2_with fail
      refine (look2_bad n H hn HQ2.out h2 w1 hb1).mono ?_
      rintro e w2 ⟨rfl, hb2⟩
      go_wp2_with fail
      go_ret
      refine ⟨congrArg Ending.returned (by rw [HE.out, HQ2.out]; rfl), ?_, Only.of_below hb2 F⟩
      rw [HE.out]
      exact (H.out.far hb2).ends0B hlt.out hb2.size
  · have h1b : (q1 != 0) = true := by simpa using h1
    have HE : Hid (s.remove n.data.toList = (s, s.looked [] [n.data.toList])) := Lib.hid (Disk.remove_1 (by rw [hq1]; exact h1))
    have HQ1 := Lib.hid hq1
    clear hq1
    go_enter Tryz.func30, Tryz.ntmps30
    go_wp2_with fail
    refine (look1_bad n H hn HQ1.out h1 w hb0).mono ?_
    rintro e w1 ⟨rfl, hb1⟩
    go_wp2_with fail
    go_ret
    refine ⟨congrArg Ending.returned (by rw [HE.out, HQ1.out]; rfl), ?_, Only.of_below hb1 F⟩
    rw [HE.out]
    exact (H.out.far hb1).ends0B hlt.out hb1.size
end
end Go.Proofs.YtncpeogkccjmcaaGreatDoor
