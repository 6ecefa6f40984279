/- Texts that lead to the claim, one behind the other: One step of a script: the walk of galleylaw03.act (printed by gen/act.py). Condition: the counts and lengths are below 2^40. -/
import Derived.Test.YtignnohjggjkoaaTa23
import Derived.Test.YtignnohjggjkoaaTa24
import Derived.Test.YtignnohjggjkoaaTa25
import Derived.Test.YtignnohjggjkoaaTa26
import Derived.Test.YtignnohjggjkoaaTa27
import Derived.Test.YtignnohjggjkoaaTa28
import Derived.Test.YtignnohjggjkoaaTa29
import Derived.Test.YtignnohjggjkoaaTa31
import Derived.Test.YtignnohjggjkoaaTa32
import Derived.Test.YtignnohjggjkoaaTa37
namespace Go.Proofs.Ytignnohjggjkoaa
open Go.RowKit Go.ChangeShapes Go.WideShapes Go.Deep

/-- A step. -/
structure OpV where
  kind : Int
  name : Disk.Nm
  dst : Disk.Nm
  b : List UInt8
  bad : Bool
  faults : List (Int × Int)
  n : Int
  keep : List Int
def Rep.op : Rep OpV where
  n := 8
  is := fun w S cs o => ∃ B cb FA cf KA ck, cs = [.int .i64 o.kind, sv o.name, sv o.dst, .slice B o.b.length cb, .bool o.bad, .slice FA o.faults.length cf, .int .i64 o.n, .slice KA o.keep.length ck] ∧ SliceAt Rep.byte w S B cb o.b ∧ SliceAt Rep.fault w S FA cf o.faults ∧ SliceAt (Rep.int .i64) w S KA ck o.keep ∧ o.name.length ≤ maxLen ∧ o.dst.length ≤ maxLen
  size := by rintro _ _ _ _ ⟨_, _, _, _, _, _, rfl, _⟩; rfl
  keep := by rintro _ _ _ _ _ _ ⟨_, _, _, _, _, _, rfl, h1, h2, h3, h4⟩ hS hk; exact ⟨_, _, _, _, _, _, rfl, h1.keep hS hk, h2.keep hS hk, h3.keep hS hk, h4⟩
  one := by rintro _ _ _ _ ⟨_, _, _, _, _, _, rfl, _⟩; simp [Value.oneCell', sv]
def OpV.act (o : OpV) : Disk.Do :=
  if o.kind = 0 then .make o.name else if o.kind = 1 then .append o.name o.b else if o.kind = 2 then .sync o.name else if o.kind = 3 then .rename o.name o.dst else if o.kind = 4 then .remove o.name
  else if o.kind = 5 then .syncDir else if o.kind = 6 then .read o.name else if o.kind = 7 then .spoil o.name o.bad else if o.kind = 11 then .plan o.faults else if o.kind = 12 then .off else if o.kind = 13 then .start o.n o.keep else .none
def OpV.can (o : OpV) : Bool := decide ((0 ≤ o.kind ∧ o.kind ≤ 7) ∨ o.kind = 11)
theorem eight {wr : World} {b : Nat} {v0 v1 v2 v3 v4 v5 v6 v7 : Value} {t : TypeId} (h : wr.heap[b]? = some (.cells #[v0, v1, v2, v3, v4, v5, v6, v7] t (0, 0))) :
    wr.cell? ⟨b, 0, none⟩ = some v0 ∧ wr.cell? ⟨b, 1, none⟩ = some v1 ∧ wr.cell? ⟨b, 2, none⟩ = some v2 ∧ wr.cell? ⟨b, 3, none⟩ = some v3 ∧ wr.cell? ⟨b, 4, none⟩ = some v4 ∧ wr.cell? ⟨b, 5, none⟩ = some v5 ∧ wr.cell? ⟨b, 6, none⟩ = some v6 ∧ wr.cell? ⟨b, 7, none⟩ = some v7 :=
  ⟨(cell_of_row _ _ 0 _ _ (0, 0) h).trans rfl, (cell_of_row _ _ 1 _ _ (0, 0) h).trans rfl, (cell_of_row _ _ 2 _ _ (0, 0) h).trans rfl, (cell_of_row _ _ 3 _ _ (0, 0) h).trans rfl, (cell_of_row _ _ 4 _ _ (0, 0) h).trans rfl, (cell_of_row _ _ 5 _ _ (0, 0) h).trans rfl, (cell_of_row _ _ 6 _ _ (0, 0) h).trans rfl, (cell_of_row _ _ 7 _ _ (0, 0) h).trans rfl⟩

section
variable {w : World} {F : Blocks} {d : Nat} {s : Disk.St}
set_option maxRecDepth 100000 in
theorem start_on (dir : Int) (v : Value) (HA : Hid (DiskAt w F d s)) (hon : s.on = true) : Calls Try.prog 14 #[.pointer (some ⟨d, 0, none⟩), .int .i64 dir, v] w fun e w' => e = .returned (.tuple #[]) ∧ w = w' := by
  obtain ⟨loc, blk, bn, bo, rowv, pA, pC, hB⟩ := HA.out
  have c3 := hB.cell 3 _ rfl
  have c4 := hB.cell 4 _ rfl
  rw [hon] at c4
  clear hB hon
  go_enter Try.func14, Try.ntmps14
  go_wp2_with (go_at_call 39; refine (ours_d c3).mono ?_; rintro e w1 ⟨rfl, rfl⟩)
  (try simp only [Exit.inBlock, Exit.then]); refine bodyPost_ret (results_none rfl _ _ _) rfl ?_
  exact ⟨rfl, rfl⟩
theorem start_any (dir : Int) (A : Option Addr) (n c : Nat) (keep : List Int) (S : Blocks) (HA : Hid (DiskAt w F d s)) (hf : Hid (Disk.Fine s)) (hn : Hid (n = keep.length)) (hl : Hid (SliceAt (Rep.int .i64) w S A c keep)) (hS : Hid (∀ b, S b → b < w.heap.size ∧ ¬ F b)) (hnb : n ≤ 1099511627776) (hrl : s.row.length ≤ 1099511627776) :
    Calls Try.prog 14 #[.pointer (some ⟨d, 0, none⟩), .int .i64 dir, .slice A n c] w fun e w' => e = .returned (.tuple #[]) ∧ DiskAt w' (grow F w w') d (s.start dir keep) ∧ Only F w w' := by
  cases hon : s.on with
  | false => exact start_off dir A n c keep S HA hf hon hn hl hS hnb hrl
  | true =>
    refine (start_on dir (.slice A n c) HA hon).mono ?_
    rintro e w' ⟨rfl, rfl⟩
    have : s.start dir keep = s := by unfold Disk.St.start; rw [if_pos hon]
    rw [this]
    exact ⟨rfl, (Dk.start HA.out).at_, Only.refl _ _⟩

set_option maxRecDepth 100000 in
set_option maxHeartbeats 4000000 in
theorem act_any (o : OpV) (B FA KA : Option Addr) (nb cb nf cf nk ck : Nat) (S : Blocks) (hnb : Hid (nb = o.b.length)) (hnf : Hid (nf = o.faults.length)) (hnk : Hid (nk = o.keep.length)) (h1 : Hid (SliceAt Rep.byte w S B cb o.b)) (h2 : Hid (SliceAt Rep.fault w S FA cf o.faults)) (h3 : Hid (SliceAt (Rep.int .i64) w S KA ck o.keep))
    (hl : o.name.length ≤ maxLen ∧ o.dst.length ≤ maxLen) (hS : Hid (∀ b, S b → b < w.heap.size ∧ ¬ F b)) (hbb : nb ≤ 1099511627776) (hbf : nf ≤ 1099511627776) (hbk : nk ≤ 1099511627776) (HA : Hid (DiskAt w F d s)) (hf : Hid (Disk.Fine s)) {k : Nat} (hk : Hid (Disk.Small k s)) (hkb : k ≤ 1099511627776) :
    Calls Try.prog 20 #[.pointer (some ⟨d, 0, none⟩), .agg #[.int .i64 o.kind, sv o.name, sv o.dst, .slice B nb cb, .bool o.bad, .slice FA nf cf, .int .i64 o.n, .slice KA nk ck]] w fun e w' =>
      e = .returned (.tuple #[.int .i64 (s.act o.act).2, .bool o.can]) ∧ Dk w w' F d (s.act o.act).1 := by
  obtain ⟨kind, name, dst, b, bad, faults, n, keep⟩ := o
  simp only at hl hnb hnf hnk h1 h2 h3 ⊢
  obtain ⟨hl1, hl2⟩ := hl
  obtain ⟨nm, hnm⟩ : ∃ nm : ByteArray, nm = ⟨name.toArray⟩ := ⟨_, rfl⟩
  obtain ⟨nt, hnt⟩ : ∃ nt : ByteArray, nt = ⟨dst.toArray⟩ := ⟨_, rfl⟩
  have hnm1 : nm.size ≤ maxLen := by rw [hnm]; simpa [ByteArray.size] using hl1
  have hnt1 : nt.size ≤ maxLen := by rw [hnt]; simpa [ByteArray.size] using hl2
  have HNM : Hid (nm.data.toList = name) := Lib.hid (by rw [hnm])
  have HNT : Hid (nt.data.toList = dst) := Lib.hid (by rw [hnt])
  rw [show sv name = .string nm from congrArg Value.string hnm.symm, show sv dst = .string nt from congrArg Value.string hnt.symm]
  obtain ⟨W, hW⟩ : ∃ W, W = w.alloc (.cells #[.int .i64 kind, .string nm, .string nt, .slice B nb cb, .bool bad, .slice FA nf cf, .int .i64 n, .slice KA nk ck] 55) := ⟨_, rfl⟩
  have hltF := HA.out.lt
  have hbW : Below w.heap.size w W := by rw [hW]; exact Below.alloc (Below.refl _ _) (Nat.le_refl _) _
  have hFW : Hid (∀ b, F b → b < W.heap.size) := Lib.hid fun b hb => Nat.lt_of_lt_of_le (hltF b hb) hbW.size
  have hbox : W.heap[w.heap.size]? = some (.cells #[.int .i64 kind, .string nm, .string nt, .slice B nb cb, .bool bad, .slice FA nf cf, .int .i64 n, .slice KA nk ck] 55 (0, 0)) := by rw [hW]; exact heap_alloc_new _ _
  have hSW : Hid (∀ b, S b → b < W.heap.size ∧ ¬ F b) := Lib.hid fun b hb => ⟨Nat.lt_of_lt_of_le (hS.out b hb).1 hbW.size, (hS.out b hb).2⟩
  have D0 : Hid (Dk W W F d s) := Lib.hid (Dk.start (HA.out.far hbW))
  have HAW : Hid (DiskAt W F d s) := Lib.hid (HA.out.far hbW)
  have hS1 := Lib.hid (h1.out.keep (S' := S) (fun _ h => h) (Same.of_below hbW fun b hb => (hS.out b hb).1))
  have hS2 := Lib.hid (h2.out.keep (S' := S) (fun _ h => h) (Same.of_below hbW fun b hb => (hS.out b hb).1))
  have hS3 := Lib.hid (h3.out.keep (S' := S) (fun _ h => h) (Same.of_below hbW fun b hb => (hS.out b hb).1))
  have hback : Hid (∀ w' t, Only F W w' → DiskAt w' (grow F W w') d t → Dk w w' F d t) := Lib.hid fun w' t h1 h2 => by subst hW; exact (Dk.mk h2 h1).back hltF
  have HK0 := Lib.hid hW
  obtain ⟨c0, c1, c2, c3, c4, c5, c6, c7⟩ := eight hbox
  clear hbW hbox hltF hnm hnt h1 h2 h3 HA hl1 hl2
  rcases (show kind = 0 ∨ kind = 1 ∨ kind = 2 ∨ kind = 3 ∨ kind = 4 ∨ kind = 5 ∨ kind = 6 ∨ kind = 7 ∨ kind = 11 ∨ kind = 12 ∨ kind = 13 ∨ (kind ≠ 0 ∧ kind ≠ 1 ∧ kind ≠ 2 ∧ kind ≠ 3 ∧ kind ≠ 4 ∧ kind ≠ 5 ∧ kind ≠ 6 ∧ kind ≠ 7 ∧ kind ≠ 11 ∧ kind ≠ 12 ∧ kind ≠ 13) from by omega) with rfl | rfl | rfl | rfl | rfl | rfl | rfl | rfl | rfl | rfl | rfl | ⟨g0, g1, g2, g3, g4, g5, g6, g7, g11, g12, g13⟩
  · have HQ : Hid ((OpV.mk 0 name dst b bad faults n keep).act = .make name) := Lib.hid rfl
    have HC : Hid ((OpV.mk 0 name dst b bad faults n keep).can = true) := Lib.hid rfl
    go_enter Try.func20, Try.ntmps20
    go_wp2_with fail
    rw [← hW]
    refine (make_any nm hnm1 HAW hf hk hkb).mono ?_
    rintro e w1 ⟨rfl, hd, ho⟩
    have HD := Lib.hid hd
    have HO := Lib.hid ho
    clear hd ho
    rw [HNM.out] at HD
    go_wp2_with fail
    go_ret2
    exact ⟨congrArg Ending.returned (by rw [HC.out, HQ.out, ← HNM.out]; rfl), by rw [HQ.out]; exact hback.out _ _ HO.out HD.out⟩
  · have HQ : Hid ((OpV.mk 1 name dst b bad faults n keep).act = .append name b) := Lib.hid rfl
    have HC : Hid ((OpV.mk 1 name dst b bad faults n keep).can = true) := Lib.hid rfl
    go_enter Try.func20, Try.ntmps20
    go_wp2_with fail
    rw [← hW]
    refine (append_any nm hnm1 B nb cb b S hnb hS1 hSW hbb HAW hf hk hkb).mono ?_
    rintro e w1 ⟨rfl, hd, ho⟩
    have HD := Lib.hid hd
    have HO := Lib.hid ho
    clear hd ho
    rw [HNM.out] at HD
    go_wp2_with fail
    go_ret2
    exact ⟨congrArg Ending.returned (by rw [HC.out, HQ.out, ← HNM.out]; rfl), by rw [HQ.out]; exact hback.out _ _ HO.out HD.out⟩
  · have HQ : Hid ((OpV.mk 2 name dst b bad faults n keep).act = .sync name) := Lib.hid rfl
    have HC : Hid ((OpV.mk 2 name dst b bad faults n keep).can = true) := Lib.hid rfl
    go_enter Try.func20, Try.ntmps20
    go_wp2_with fail
    rw [← hW]
    refine (sync_any nm hnm1 HAW hf hk hkb).mono ?_
    rintro e w1 ⟨rfl, hd, ho⟩
    have HD := Lib.hid hd
    have HO := Lib.hid ho
    clear hd ho
    rw [HNM.out] at HD
    go_wp2_with fail
    go_ret2
    exact ⟨congrArg Ending.returned (by rw [HC.out, HQ.out, ← HNM.out]; rfl), by rw [HQ.out]; exact hback.out _ _ HO.out HD.out⟩
  · have HQ : Hid ((OpV.mk 3 name dst b bad faults n keep).act = .rename name dst) := Lib.hid rfl
    have HC : Hid ((OpV.mk 3 name dst b bad faults n keep).can = true) := Lib.hid rfl
    go_enter Try.func20, Try.ntmps20
    go_wp2_with fail
    rw [← hW]
    refine (rename_any nm nt hnm1 hnt1 HAW hf hk hkb).mono ?_
    rintro e w1 ⟨rfl, hd, ho⟩
    have HD := Lib.hid hd
    have HO := Lib.hid ho
    clear hd ho
    rw [HNM.out, HNT.out] at HD
    go_wp2_with fail
    go_ret2
    exact ⟨congrArg Ending.returned (by rw [HC.out, HQ.out, ← HNM.out, ← HNT.out]; rfl), by rw [HQ.out]; exact hback.out _ _ HO.out HD.out⟩
  · have HQ : Hid ((OpV.mk 4 name dst b bad faults n keep).act = .remove name) := Lib.hid rfl
    have HC : Hid ((OpV.mk 4 name dst b bad faults n keep).can = true) := Lib.hid rfl
    go_enter Try.func20, Try.ntmps20
    go_wp2_with fail
    rw [← hW]
    refine (remove_any nm hnm1 HAW hf hk hkb).mono ?_
    rintro e w1 ⟨rfl, hd, ho⟩
    have HD := Lib.hid hd
    have HO := Lib.hid ho
    clear hd ho
    rw [HNM.out] at HD
    go_wp2_with fail
    go_ret2
    exact ⟨congrArg Ending.returned (by rw [HC.out, HQ.out, ← HNM.out]; rfl), by rw [HQ.out]; exact hback.out _ _ HO.out HD.out⟩
  · have HQ : Hid ((OpV.mk 5 name dst b bad faults n keep).act = .syncDir) := Lib.hid rfl
    have HC : Hid ((OpV.mk 5 name dst b bad faults n keep).can = true) := Lib.hid rfl
    go_enter Try.func20, Try.ntmps20
    go_wp2_with fail
    rw [← hW]
    refine (syncDir_any HAW hf hk hkb).mono ?_
    rintro e w1 ⟨rfl, hd, ho⟩
    have HD := Lib.hid hd
    have HO := Lib.hid ho
    clear hd ho
    rw [show d = d from rfl] at HD
    go_wp2_with fail
    go_ret2
    exact ⟨congrArg Ending.returned (by rw [HC.out, HQ.out]; rfl), by rw [HQ.out]; exact hback.out _ _ HO.out HD.out⟩
  · have HQ : Hid ((OpV.mk 6 name dst b bad faults n keep).act = .read name) := Lib.hid rfl
    have HC : Hid ((OpV.mk 6 name dst b bad faults n keep).can = true) := Lib.hid rfl
    go_enter Try.func20, Try.ntmps20
    go_wp2_with fail
    rw [← hW]
    refine (read_any nm hnm1 HAW hf).mono ?_
    rintro e w1 ⟨A, q, c, rfl, hq, hqc, hcm, -, hb1⟩
    have HD := Lib.hid (D0.out.far hFW.out hb1)
    clear hb1
    go_wp2_with fail
    go_ret2
    exact ⟨congrArg Ending.returned (by rw [HC.out, HQ.out, ← HNM.out]; rfl), by rw [HQ.out]; exact hback.out _ _ HD.out.only HD.out.at_⟩
  · have HQ : Hid ((OpV.mk 7 name dst b bad faults n keep).act = .spoil name bad) := Lib.hid rfl
    have HC : Hid ((OpV.mk 7 name dst b bad faults n keep).can = true) := Lib.hid rfl
    go_enter Try.func20, Try.ntmps20
    go_wp2_with fail
    rw [← hW]
    refine (spoil_any nm bad hnm1 HAW hf).mono ?_
    rintro e w1 ⟨rfl, hd, ho⟩
    have HD := Lib.hid hd
    have HO := Lib.hid ho
    clear hd ho
    rw [HNM.out] at HD
    go_wp2_with fail
    go_ret2
    exact ⟨congrArg Ending.returned (by rw [HC.out, HQ.out, ← HNM.out]; rfl), by rw [HQ.out]; exact hback.out _ _ HO.out HD.out⟩
  · have HQ : Hid ((OpV.mk 11 name dst b bad faults n keep).act = .plan faults) := Lib.hid rfl
    have HC : Hid ((OpV.mk 11 name dst b bad faults n keep).can = true) := Lib.hid rfl
    go_enter Try.func20, Try.ntmps20
    go_wp2_with fail
    rw [← hW]
    refine (plan_any FA nf cf faults S HAW hnf hS2 hSW hbf).mono ?_
    rintro e w1 ⟨rfl, hd, ho⟩
    have HD := Lib.hid hd
    have HO := Lib.hid ho
    clear hd ho
    rw [show d = d from rfl] at HD
    go_wp2_with fail
    go_ret2
    exact ⟨congrArg Ending.returned (by rw [HC.out, HQ.out]; rfl), by rw [HQ.out]; exact hback.out _ _ HO.out HD.out⟩
  · have HQ : Hid ((OpV.mk 12 name dst b bad faults n keep).act = .off) := Lib.hid rfl
    have HC : Hid ((OpV.mk 12 name dst b bad faults n keep).can = false) := Lib.hid rfl
    go_enter Try.func20, Try.ntmps20
    go_wp2_with fail
    rw [← hW]
    refine (off_any HAW).mono ?_
    rintro e w1 ⟨rfl, hd, ho⟩
    have HD := Lib.hid (DiskAt.up hd (G := grow F W w1) (fun _ hb => .inl hb) (grow_lt hFW.out ho.size))
    have HO := Lib.hid ho
    clear hd ho
    go_wp2_with fail
    go_ret2
    exact ⟨congrArg Ending.returned (by rw [HC.out, HQ.out]; rfl), by rw [HQ.out]; exact hback.out _ _ HO.out HD.out⟩
  · have HQ : Hid ((OpV.mk 13 name dst b bad faults n keep).act = .start n keep) := Lib.hid rfl
    have HC : Hid ((OpV.mk 13 name dst b bad faults n keep).can = false) := Lib.hid rfl
    go_enter Try.func20, Try.ntmps20
    go_wp2_with fail
    rw [← hW]
    refine (start_any n KA nk ck keep S HAW hf hnk hS3 hSW hbk (by obtain ⟨-, -, -, -, a⟩ := hk.out; omega)).mono ?_
    rintro e w1 ⟨rfl, hd, ho⟩
    have HD := Lib.hid hd
    have HO := Lib.hid ho
    clear hd ho
    go_wp2_with fail
    go_ret2
    exact ⟨congrArg Ending.returned (by rw [HC.out, HQ.out]; rfl), by rw [HQ.out]; exact hback.out _ _ HO.out HD.out⟩
  · have HQ : Hid ((OpV.mk kind name dst b bad faults n keep).act = .none) := Lib.hid (by simp [OpV.act, g0, g1, g2, g3, g4, g5, g6, g7, g11, g12, g13])
    have HC : Hid (OpV.can (OpV.mk kind name dst b bad faults n keep) = false) := Lib.hid (decide_eq_false (by simp only; omega))
    have f0 : (kind == 0) = false := beq_eq_false_iff_ne.2 g0
    have f1 : (kind == 1) = false := beq_eq_false_iff_ne.2 g1
    have f2 : (kind == 2) = false := beq_eq_false_iff_ne.2 g2
    have f3 : (kind == 3) = false := beq_eq_false_iff_ne.2 g3
    have f4 : (kind == 4) = false := beq_eq_false_iff_ne.2 g4
    have f5 : (kind == 5) = false := beq_eq_false_iff_ne.2 g5
    have f6 : (kind == 6) = false := beq_eq_false_iff_ne.2 g6
    have f7 : (kind == 7) = false := beq_eq_false_iff_ne.2 g7
    have f11 : (kind == 11) = false := beq_eq_false_iff_ne.2 g11
    have f12 : (kind == 12) = false := beq_eq_false_iff_ne.2 g12
    have f13 : (kind == 13) = false := beq_eq_false_iff_ne.2 g13
    clear g0 g1 g2 g3 g4 g5 g6 g7 g11 g12 g13
    go_enter Try.func20, Try.ntmps20
    go_wp2_with fail
    rw [← hW]
    go_ret2
    exact ⟨congrArg Ending.returned (by rw [HC.out, HQ.out]; rfl), by rw [HQ.out]; exact hback.out _ _ D0.out.only D0.out.at_⟩
end
end Go.Proofs.Ytignnohjggjkoaa
