/- Texts that lead to the claim, one behind the other: The document's disk in memory, by its own blocks: what it reads as, how it stays, how a cell of its block is written over. No program in sight. No conditions. | What befalls a call: the walks of galleyref03.find, behind, (Disk).try. Conditions: the counts are below 2^40. | A change of the document's folder: the walks of galleyref03.behind, (Disk).changes. Conditions: the counts are below 2^31. | Writing calls of the document's disk: the walks of (Disk).SyncDir, Remove, Rename. Conditions: the counts are below 2^31; what is planned is IO, full or down. | A file of the document's disk: its cells, how one is written over. No program in sight. No conditions. | How many bytes the document's disk holds: the walk of galleyref03.(Disk).Sum. Condition: the sum is below 2^62. | Writing calls of the document's disk: the walks of (Disk).Remove, Rename (printed by gen/refcalls.py). Conditions: the counts are below 2^31; what is planned is IO, full or down. | Writing calls of the document's disk: the walks of (Disk).Sync (printed by gen/refcalls.py). Conditions: the counts are below 2^31; what is planned is IO, full or down. | A file of the document's disk whose bytes grew. No program in sight. No conditions. | A file of the document's disk whose bytes are put by new ones. No program in sight. No conditions. -/
import Derived.Test.YtncpeogkccjmcaaGreatDoorTK19
import Derived.Test.YtncpeogkccjmcaaGreatDoorTK12
import Derived.Test.YtncpeogkccjmcaaGreatDoorTK20
import Derived.Test.YtncpeogkccjmcaaGreatDoorTK14
namespace Go.Proofs.YtncpeogkccjmcaaGreatDoor
open Go.RowKit Go.ChangeShapes Go.WideShapes Go.Deep

/-- A block of entries among those of F. -/
def EntIn (w : World) (F : Blocks) : Blocks := fun b => F b ∧ ∃ cs f, w.heap[b]? = some (.cells cs 116 f)
def EntF (w : World) (F : Blocks) (v : Value) (l : Disk.Fo) : Prop := ∃ A c, v = .slice A l.length c ∧ SliceAt Rep.ent w (EntIn w F) A c l
section
variable {w w' : World} {F G : Blocks} {v : Value} {l : Disk.Fo}
theorem EntIn.lt {b : Nat} (h : EntIn w F b) : b < w.heap.size := by
  obtain ⟨-, cs, f, h⟩ := h
  exact (Array.getElem?_eq_some_iff.1 h).1
theorem EntIn.ne {b g : Nat} (h : EntIn w F b) {cs : Array Value} {t : TypeId} {fr : Nat × Nat} (hg : w.heap[g]? = some (.cells cs t fr)) (hne : 116 ≠ t) : b ≠ g := by
  rintro rfl
  obtain ⟨-, cs', f, h⟩ := h
  rw [h] at hg
  injection hg with hg
  injection hg with _ ht
  exact hne ht
theorem EntF.same (h : EntF w F v l) (hF : ∀ b, F b → G b) (hk : ∀ b, EntIn w F b → w'.heap[b]? = w.heap[b]?) : EntF w' G v l := by
  obtain ⟨A, c, e, hs⟩ := h
  exact ⟨A, c, e, hs.keep (fun b hb => ⟨hF b hb.1, by obtain ⟨cs, f, h⟩ := hb.2; exact ⟨cs, f, (hk b hb).trans h⟩⟩) hk⟩
theorem EntF.of_own {B2 : Nat} (h : Own Rep.ent 116 w B2 nob v l) (hB : ∀ b, B2 ≤ b → b < w.heap.size → F b) : EntF w F v l := by
  obtain ⟨A, c, rfl, hs⟩ := h.slice
  refine ⟨A, c, rfl, hs.up fun b hb => ?_⟩
  rcases hb with ⟨h1, h2, h3⟩ | h0
  · obtain ⟨cur, hc⟩ := h.content h3.symm
    exact ⟨hB b h1 h2, cur, _, hc⟩
  · exact h0.elim
end
/-- The document's disk. -/
structure RefF (w : World) (F : Blocks) (d : Nat) (s : Disk.St) (av nv ov rv pv : Value) (vs : List TN) : Prop where
  hd : w.heap[d]? = some (.cells #[.int .i64 s.room, .bool s.on, av, nv, ov, rv, pv, .int .i64 s.tries, .int .i64 s.done] 92 (0, 0))
  all : Own Rep.nodeV 95 w 0 nob av vs
  is_ : vs.map (·.1) = s.all
  rows : RowsV w 0 (vs.map fun x => (x.2, x.1.bytes))
  now : EntF w F nv s.now
  old : EntF w F ov s.old
  row : Own Rep.rchg 129 w 0 nob rv s.row
  plan : Own Rep.fault 123 w 0 nob pv s.plan
  Fd : F d
  Fa : ∀ b, av.ownBlock = some b → F b
  Fb : ∀ x ∈ vs, ∀ b, x.2.ownBlock = some b → F b
  Fr : ∀ b, rv.ownBlock = some b → F b
  Fp : ∀ b, pv.ownBlock = some b → F b
  lt : ∀ b, F b → b < w.heap.size
def RefFA (w : World) (F : Blocks) (d : Nat) (s : Disk.St) : Prop := ∃ av nv ov rv pv vs, RefF w F d s av nv ov rv pv vs
section
variable {w w' : World} {F G : Blocks} {d : Nat} {s t : Disk.St} {av nv ov rv pv : Value} {vs : List TN}
theorem RefF.at_ (h : RefF w F d s av nv ov rv pv vs) : RefFA w F d s := ⟨_, _, _, _, _, _, h⟩
theorem RefF.len (h : RefF w F d s av nv ov rv pv vs) : vs.length = s.all.length := by rw [← h.is_, List.length_map]
/-- .. while none of its blocks turns. -/
theorem RefF.only (h : RefF w F d s av nv ov rv pv vs) (ho : Only G w w') (hG : ∀ b, F b → ¬ G b) : RefF w' F d s av nv ov rv pv vs where
  hd := (ho.block d (h.lt d h.Fd) (hG d h.Fd)).trans h.hd
  all := h.all.only ho fun b hb => hG b (h.Fa b hb)
  is_ := h.is_
  rows := h.rows.only ho fun x hx b hb => by
    obtain ⟨y, hy, rfl⟩ := List.mem_map.1 hx
    exact hG b (h.Fb y hy b hb)
  now := h.now.same (fun _ h => h) fun b hb => ho.block b hb.lt (hG b hb.1)
  old := h.old.same (fun _ h => h) fun b hb => ho.block b hb.lt (hG b hb.1)
  row := h.row.only ho fun b hb => hG b (h.Fr b hb)
  plan := h.plan.only ho fun b hb => hG b (h.Fp b hb)
  Fd := h.Fd
  Fa := h.Fa
  Fb := h.Fb
  Fr := h.Fr
  Fp := h.Fp
  lt := fun b hb => Nat.lt_of_lt_of_le (h.lt b hb) ho.size
theorem RefF.far (h : RefF w F d s av nv ov rv pv vs) (hb : Below w.heap.size w w') : RefF w' F d s av nv ov rv pv vs := h.only (Only.of_below hb nob) fun _ _ h => h
theorem RefFA.far (h : RefFA w F d s) (hb : Below w.heap.size w w') : RefFA w' F d s := by
  obtain ⟨av, nv, ov, rv, pv, vs, h⟩ := h
  exact (h.far hb).at_
theorem RefFA.only (h : RefFA w F d s) (ho : Only G w w') (hG : ∀ b, F b → ¬ G b) : RefFA w' F d s := by
  obtain ⟨av, nv, ov, rv, pv, vs, h⟩ := h
  exact (h.only ho hG).at_
theorem RefF.up (h : RefF w F d s av nv ov rv pv vs) (hF : ∀ b, F b → G b) (hl : ∀ b, G b → b < w.heap.size) : RefF w G d s av nv ov rv pv vs :=
  ⟨h.hd, h.all, h.is_, h.rows, h.now.same hF fun _ _ => rfl, h.old.same hF fun _ _ => rfl, h.row, h.plan, hF _ h.Fd, fun b hb => hF b (h.Fa b hb), fun x hx b hb => hF b (h.Fb x hx b hb), fun b hb => hF b (h.Fr b hb), fun b hb => hF b (h.Fp b hb), hl⟩
theorem RefFA.up (h : RefFA w F d s) (hF : ∀ b, F b → G b) (hl : ∀ b, G b → b < w.heap.size) : RefFA w G d s := by
  obtain ⟨av, nv, ov, rv, pv, vs, h⟩ := h
  exact (h.up hF hl).at_
theorem RefF.cell (h : RefF w F d s av nv ov rv pv vs) (k : Nat) (u : Value) (hu : (#[.int .i64 s.room, .bool s.on, av, nv, ov, rv, pv, .int .i64 s.tries, .int .i64 s.done] : Array Value)[k]? = some u) : w.cell? ⟨d, k, none⟩ = some u :=
  (cell_of_row w d k _ _ (0, 0) h.hd).trans hu
theorem RefF.frozen (h : RefF w F d s av nv ov rv pv vs) (k : Nat) : w.frozen? ⟨d, k, none⟩ = false := by simp [World.frozen?, h.hd]
/-- A cell of its block written over: what has come to it is given anew. -/
theorem RefF.set {k : Nat} {u av' nv' ov' rv' pv' : Value} {vs' : List TN} (h : RefF w F d s av nv ov rv pv vs)
    (hc : (#[.int .i64 s.room, .bool s.on, av, nv, ov, rv, pv, .int .i64 s.tries, .int .i64 s.done] : Array Value).setIfInBounds k u = #[.int .i64 t.room, .bool t.on, av', nv', ov', rv', pv', .int .i64 t.tries, .int .i64 t.done])
    (ha : Own Rep.nodeV 95 w 0 nob av' vs') (hi : vs'.map (·.1) = t.all) (hr : RowsV w 0 (vs'.map fun x => (x.2, x.1.bytes))) (hn : EntF w F nv' t.now) (ho' : EntF w F ov' t.old) (hrw : Own Rep.rchg 129 w 0 nob rv' t.row) (hp : Own Rep.fault 123 w 0 nob pv' t.plan)
    (Fa : ∀ b, av'.ownBlock = some b → F b) (Fb : ∀ x ∈ vs', ∀ b, x.2.ownBlock = some b → F b) (Fr : ∀ b, rv'.ownBlock = some b → F b) (Fp : ∀ b, pv'.ownBlock = some b → F b) : RefF (w.setCell ⟨d, k, none⟩ u) F d t av' nv' ov' rv' pv' vs' := by
  have ho : Only (fun b => b = d) w (w.setCell ⟨d, k, none⟩ u) := (Only.refl (fun b => b = d) w).setCell (p := ⟨d, k, none⟩) (.inl rfl) u
  refine ⟨?_, ha.only ho fun b hb e => ?_, hi, hr.only ho fun x hx b hb e => ?_, hn.same (fun _ h => h) fun b hb => ho.block b hb.lt (hb.ne h.hd (by decide)), ho'.same (fun _ h => h) fun b hb => ho.block b hb.lt (hb.ne h.hd (by decide)), hrw.only ho fun b hb e => ?_, hp.only ho fun b hb e => ?_, h.Fd, Fa, Fb, Fr, Fp, fun b hb => Nat.lt_of_lt_of_le (h.lt b hb) ho.size⟩
  · simp only [World.setCell, Array.getElem?_modify, if_true, h.hd, Option.map_some]
    simpa using hc
  · subst e; exact ha.ne_block h.hd (by decide) hb
  · subst e; exact hr.ne h.hd (by decide) x hx hb
  · subst e; exact hrw.ne_block h.hd (by decide) hb
  · subst e; exact hp.ne_block h.hd (by decide) hb
/-- .. of numbers alone. -/
theorem RefF.setN {k : Nat} {u : Value} (h : RefF w F d s av nv ov rv pv vs)
    (hc : (#[.int .i64 s.room, .bool s.on, av, nv, ov, rv, pv, .int .i64 s.tries, .int .i64 s.done] : Array Value).setIfInBounds k u = #[.int .i64 t.room, .bool t.on, av, nv, ov, rv, pv, .int .i64 t.tries, .int .i64 t.done])
    (h1 : t.all = s.all) (h2 : t.now = s.now) (h3 : t.old = s.old) (h4 : t.row = s.row) (h5 : t.plan = s.plan) : RefF (w.setCell ⟨d, k, none⟩ u) F d t av nv ov rv pv vs :=
  h.set hc h.all (by rw [h1]; exact h.is_) h.rows (by rw [h2]; exact h.now) (by rw [h3]; exact h.old) (by rw [h4]; exact h.row) (by rw [h5]; exact h.plan) h.Fa h.Fb h.Fr h.Fp
/-- What From leaves. -/
theorem RefAt.toF {base : Nat} (h : RefAt w base d s) : RefFA w (btw base w.heap.size) d s := by
  obtain ⟨av, nv, ov, rv, pv, vs, h⟩ := h
  refine ⟨av, nv, ov, rv, pv, vs, h.hd, h.all.low (Nat.zero_le _), h.is_, ⟨fun x hx => (h.rows.own x hx).low (Nat.zero_le _), h.rows.apart⟩, ?_, ?_, h.row.low (Nat.zero_le _), h.plan.low (Nat.zero_le _), ⟨h.low, (Array.getElem?_eq_some_iff.1 h.hd).1⟩, fun b hb => h.all.block_lt hb, fun x hx b hb => h.rows.lt _ (List.mem_map.2 ⟨x, hx, rfl⟩) b hb, fun b hb => h.row.block_lt hb, fun b hb => h.plan.block_lt hb, fun b hb => hb.2⟩
  · obtain ⟨A, c, e, hs⟩ := h.now
    exact ⟨A, c, e, hs.up fun b hb => ⟨⟨hb.1, hb.lt⟩, hb.2⟩⟩
  · obtain ⟨A, c, e, hs⟩ := h.old
    exact ⟨A, c, e, hs.up fun b hb => ⟨⟨hb.1, hb.lt⟩, hb.2⟩⟩
end
/-- What a call leaves. -/
def RefCall (w : World) (F : Blocks) (d : Nat) (r : Disk.St × Int) (e : Ending) (w' : World) : Prop := e = .returned (.int .i64 r.2) ∧ RefFA w' (grow F w w') d r.1 ∧ Only F w w'
end Go.Proofs.YtncpeogkccjmcaaGreatDoor
namespace Go.Proofs.YtncpeogkccjmcaaGreatDoor
open Go.RowKit Go.ChangeShapes Go.WideShapes Go.Deep

/-- The number of the file under a name, -1: there is none. -/
def findI (l : Disk.Fo) (k : Disk.Nm) : Int := match Disk.find l k with | none => -1 | some i => i
theorem find_take (l : Disk.Fo) (k : Disk.Nm) {j : Nat} (hj : j < l.length) (h : Disk.find (l.take j) k = none) :
    ((l[j]).1 = k → findI l k = (l[j]).2) ∧ ((l[j]).1 ≠ k → Disk.find (l.take (j + 1)) k = none) := by
  have e : l = l.take j ++ l[j] :: l.drop (j + 1) := by rw [← List.drop_eq_getElem_cons hj, List.take_append_drop]
  unfold Disk.find at h
  have h0 : List.find? (fun p => p.1 == k) (l.take j) = none := by simpa using h
  constructor
  · intro hk
    have e2 := congrArg (List.find? fun p => p.1 == k) e
    have e3 : List.find? (fun p => p.1 == k) l = some l[j] := by rw [e2, List.find?_append, h0, Option.none_or, List.find?_cons, hk, beq_self_eq_true]
    unfold findI Disk.find
    rw [e3]
    rfl
  · intro hk
    unfold Disk.find
    rw [List.take_succ_eq_append_getElem hj, List.find?_append, h0]
    simp [hk]
section
variable {w : World}
set_option maxRecDepth 100000 in
theorem refFind_any (l : Disk.Fo) (nm : ByteArray) (A : Option Addr) (n c : Nat) (S : Blocks) (hn : Hid (n = l.length)) (hl : Hid (SliceAt Rep.ent w S A c l)) :
    Calls Tryz.prog 93 #[.slice A n c, .string nm] w fun e w' => e = .returned (.int .i64 (findI l nm.data.toList)) ∧ w' = w := by
  have hnc : n ≤ c := by rw [hn.out]; exact hl.out.len
  have hcm := hl.out.max
  obtain ⟨K, hK⟩ : ∃ K, K = nm.data.toList := ⟨_, rfl⟩
  rw [← hK]
  have HK := Lib.hid hK
  clear hK
  go_enter Tryz.func93, Tryz.ntmps93
  go_wp2_with fail
  go_loopg [5] n (fun q i wr => ∃ (j : Nat), q = n - j ∧ j ≤ n ∧ i = .int .i64 j ∧ Hid (wr = w) ∧ Hid (Disk.find (l.take j) K = none))
  case atStart => exact ⟨0, rfl, by omega, rfl, Lib.hid rfl, Lib.hid (by simp [Disk.find])⟩
  case round =>
    obtain ⟨j, rfl, hj, rfl, HW, HF⟩ := hrel
    obtain rfl := HW.out
    by_cases hjn : j < n
    · have hjl : j < l.length := by rw [← hn.out]; exact hjn
      obtain ⟨g, o, rfl, hg, k0, k1, hk1, hk2⟩ := hl.out.ent hjl
      obtain ⟨f1, f2⟩ := find_take l K hjl HF.out
      obtain ⟨p, hp⟩ : ∃ p, p = l[j] := ⟨_, rfl⟩
      rw [← hp] at k0 k1 hk1 hk2 f1 f2
      obtain ⟨k, i⟩ := p
      simp only at k0 k1 hk1 hk2 f1 f2
      obtain ⟨x, hx⟩ : ∃ x : ByteArray, x = ⟨k.toArray⟩ := ⟨_, rfl⟩
      rw [← hx] at k0
      have HX : Hid (x.data.toList = k) := Lib.hid (by rw [hx])
      clear hp hg hx
      by_cases he : k = K
      · have HR := Lib.hid (f1 he)
        have hbe := bytes_eq (a := x) (b := nm) (by rw [HX.out, he, HK.out])
        clear f1 f2 he
        go_wp2_with fail
        go_ret
        exact ⟨by rw [HR.out]; rfl, rfl⟩
      · have HR := Lib.hid (f2 he)
        have hbe := bytes_ne (a := x) (b := nm) (by rw [HX.out, ← HK.out]; exact he)
        clear f1 f2 he
        go_wp2_with fail
        go_roundg (n - (j + 1))
        case measure => omega
        case rel => exact ⟨j + 1, rfl, by omega, by go_num, Lib.hid rfl, HR⟩
    · obtain rfl : j = n := by omega
      have HR : Hid (findI l K = -1) := Lib.hid (by have := HF.out; rw [hn.out, List.take_length] at this; unfold findI; rw [this])
      go_wp2_with fail
      go_ret
      exact ⟨by rw [HR.out]; rfl, rfl⟩
/-- What befalls a call: a try. -/
def Disk.St.tryS (s : Disk.St) (ns : List Disk.Nm) (has : Disk.Nm) : Disk.St × Int := if s.looked [] ns ≠ 0 then (s, s.looked [] ns) else if s.looked has [] ≠ 0 then (s, s.looked has []) else s.tried
theorem call_try (s : Disk.St) (ns : List Disk.Nm) (has : Disk.Nm) (f : Disk.St → Disk.St × Int) : s.call ns has f = if (s.tryS ns has).2 ≠ 0 then s.tryS ns has else f (s.tryS ns has).1 := by
  unfold Disk.St.call Disk.St.tryS
  split
  · rfl
  · split
    · rfl
    · rfl
theorem try_off {s : Disk.St} (h : s.on = false) (ns : List Disk.Nm) (has : Disk.Nm) : s.tryS ns has = (s, 24) := by
  have : s.looked [] ns = 24 := by simp [Disk.St.looked, h]
  unfold Disk.St.tryS
  rw [this, if_pos (by decide)]
theorem try_name {s : Disk.St} (h : s.on = true) {ns : List Disk.Nm} {n : Disk.Nm} (hn : n ∈ ns) (hb : Disk.isName n = false) (has : Disk.Nm) : s.tryS ns has = (s, 20) := by
  have h1 : (ns.any fun n => !Disk.isName n) = true := List.any_eq_true.2 ⟨n, hn, by simp [hb]⟩
  have : s.looked [] ns = 20 := by simp only [Disk.St.looked, h, h1]; rfl
  unfold Disk.St.tryS
  rw [this, if_pos (by decide)]
theorem try_rest {s : Disk.St} (h : s.on = true) {ns : List Disk.Nm} (hn : ∀ n ∈ ns, Disk.isName n = true) (has : Disk.Nm) : s.tryS ns has = if has ≠ [] ∧ findI s.now has < 0 then (s, 21) else s.tried := by
  have h1 : (ns.any fun n => !Disk.isName n) = false := by rw [List.any_eq_false]; intro n hm; simp [hn n hm]
  have h2 : s.looked [] ns = 0 := by simp [Disk.St.looked, h, h1]
  have h4 : Disk.find s.now has = none ↔ findI s.now has < 0 := by
    unfold findI
    cases Disk.find s.now has with
    | none => simp
    | some i => simp
  have h3 : s.looked has [] = if has ≠ [] ∧ findI s.now has < 0 then 21 else 0 := by
    simp only [Disk.St.looked, h, h4, List.any_nil]
    rfl
  unfold Disk.St.tryS
  rw [h2, if_neg (by simp), h3]
  split
  · rw [if_pos (by decide)]
  · rw [if_neg (by simp)]
theorem empty_b (x : ByteArray) : x.toList.isEmpty = decide (x.data.toList = []) := by
  rw [ByteArray.toList_eq]
  cases x.data.toList <;> simp
variable {F : Blocks} {d : Nat} {s : Disk.St}
set_option maxRecDepth 100000 in
set_option maxHeartbeats 8000000 in
theorem refTry_any (ns : List ByteArray) (asks : ByteArray) (A : Option Addr) (n c : Nat) (S : Blocks) (HA : Hid (RefFA w F d s)) (hn : Hid (n = ns.length)) (hl : Hid (SliceAt Rep.str w S A c ns)) (hS : Hid (∀ b, S b → b < w.heap.size)) (ht : 0 ≤ s.tries ∧ s.tries ≤ 4611686018427387904) :
    Calls Tryz.prog 92 #[.pointer (some ⟨d, 0, none⟩), .slice A n c, .string asks] w (RefCall w F d (s.tryS (ns.map fun x => x.data.toList) asks.data.toList)) := by
  have hnc : n ≤ c := by rw [hn.out]; exact hl.out.len
  have hcm := hl.out.max
  obtain ⟨av, nv, ov, rv, pv, vs, hR⟩ := HA.out
  have H := Lib.hid hR
  obtain ⟨on, hon⟩ : ∃ b, s.on = b := ⟨_, rfl⟩
  have c1 := hR.cell 1 _ rfl
  rw [hon] at c1
  have HON := Lib.hid hon
  have hstay : ∀ W, Below w.heap.size w W → RefFA W (grow F w W) d s := fun W hb => (hR.far hb).at_.up (fun _ h => .inl h) (grow_lt hR.lt hb.size)
  have HST := Lib.hid hstay
  clear hR hon hstay
  cases on
  · have HT := Lib.hid (try_off HON.out (ns.map fun x => x.data.toList) asks.data.toList)
    go_enter Tryz.func92, Tryz.ntmps92
    go_wp2_with fail
    go_ret
    exact ⟨by rw [HT.out]; rfl, by rw [HT.out]; exact HST.out _ (Below.refl _ _), Only.refl _ _⟩
  go_enter Tryz.func92, Tryz.ntmps92
  go_wp2_with fail
  go_loopg [7] n (fun q i wr => ∃ (j : Nat), q = n - j ∧ j ≤ n ∧ i = .int .i64 j ∧ Hid (wr = w) ∧ Hid (∀ x ∈ ns.take j, Disk.isName x.data.toList = true))
  case atStart => exact ⟨0, rfl, by omega, rfl, Lib.hid rfl, Lib.hid (by simp)⟩
  case round =>
    obtain ⟨j, rfl, hj, rfl, HW, HNM⟩ := hrel
    obtain rfl := HW.out
    by_cases hjn : j < n
    · have hjl : j < ns.length := by rw [← hn.out]; exact hjn
      obtain ⟨g, o, cs, rfl, hg, hcs, rfl, hx⟩ := hl.out.at_ hjl
      have k0 := hcs.one
      rw [show Rep.str.n = 1 from rfl, Nat.mul_one] at k0
      obtain ⟨x, hxe⟩ : ∃ x, x = ns[j] := ⟨_, rfl⟩
      rw [← hxe] at k0 hx
      have hmem : x ∈ ns := by rw [hxe]; exact List.getElem_mem hjl
      have htk : ns.take (j + 1) = ns.take j ++ [x] := by rw [List.take_succ_eq_append_getElem hjl, hxe]
      obtain ⟨q, hq⟩ : ∃ q, Disk.isName x.data.toList = q := ⟨_, rfl⟩
      have HNC : Hid (Calls Tryz.prog 24 #[.string x] wr fun e w' => e = .returned (.bool q) ∧ w' = wr) := Lib.hid (by rw [← hq]; exact refName_any x hx wr)
      have HQ := Lib.hid hq
      have HM := Lib.hid hmem
      have HTK := Lib.hid htk
      clear hcs hg hxe hmem htk hq hx
      cases q
      · have HT := Lib.hid (try_name HON.out (ns := ns.map fun x => x.data.toList) (List.mem_map.2 ⟨x, HM.out, rfl⟩) HQ.out asks.data.toList)
        go_wp2_with fail
        refine HNC.out.mono ?_
        rintro e w2 ⟨rfl, rfl⟩
        go_wp2_with fail
        go_ret
        exact ⟨by rw [HT.out]; rfl, by rw [HT.out]; exact HST.out _ (Below.refl _ _), Only.refl _ _⟩
      · have HNM2 : Hid (∀ y ∈ ns.take (j + 1), Disk.isName y.data.toList = true) := Lib.hid (by
          intro y hy
          rw [HTK.out] at hy
          rcases List.mem_append.1 hy with hy | hy
          · exact HNM.out y hy
          · rw [List.mem_singleton.1 hy]; exact HQ.out)
        go_wp2_with fail
        refine HNC.out.mono ?_
        rintro e w2 ⟨rfl, rfl⟩
        go_wp2_with fail
        go_roundg (n - (j + 1))
        case measure => omega
        case rel => exact ⟨j + 1, rfl, by omega, by go_num, Lib.hid rfl, HNM2⟩
    · obtain rfl : j = n := by omega
      have HT := Lib.hid (try_rest HON.out (ns := ns.map fun x => x.data.toList) (by
        intro m hm
        obtain ⟨x, hx, rfl⟩ := List.mem_map.1 hm
        exact HNM.out x (by rw [hn.out, List.take_length]; exact hx)) asks.data.toList)
      obtain ⟨NA, NC, rfl, hsn⟩ := H.out.now
      obtain ⟨nn, hnn⟩ : ∃ x, x = s.now.length := ⟨_, rfl⟩
      have c3 := H.out.cell 3 _ rfl
      rw [← hnn] at c3
      have HFI := Lib.hid (refFind_any (w := wr) s.now asks NA nn NC _ (Lib.hid hnn) (Lib.hid hsn))
      obtain ⟨fi, hfi⟩ : ∃ x, findI s.now asks.data.toList = x := ⟨_, rfl⟩
      rw [hfi] at HFI HT
      obtain ⟨eb, heb⟩ : ∃ b, asks.toList.isEmpty = b := ⟨_, rfl⟩
      have HEB : Hid ((asks.data.toList = []) ↔ eb = true) := Lib.hid (by rw [← heb, empty_b]; simp)
      clear hsn hnn hfi
      by_cases hA : eb = false ∧ fi < 0
      · obtain ⟨rfl, hf0⟩ := hA
        have HT2 := Lib.hid (HT.out.trans (if_pos ⟨fun h => by simpa using HEB.out.1 h, hf0⟩))
        go_wp2_with (go_at_call 93; refine HFI.out.mono ?_; rintro e w2 ⟨rfl, rfl⟩)
        go_ret
        exact ⟨by rw [HT2.out]; rfl, by rw [HT2.out]; exact HST.out _ (Below.refl _ _), Only.refl _ _⟩
      have HT2 := Lib.hid (HT.out.trans (if_neg fun h => by
        cases eb
        · exact hA ⟨rfl, h.2⟩
        · exact h.1 (HEB.out.2 rfl)))
      have hfb : eb = true ∨ decide (fi < 0) = false := by
        cases eb
        · right; exact decide_eq_false fun h => hA ⟨rfl, h⟩
        · left; rfl
      clear hA
      go_upto_region 8 with fail
      go_cut [36] from 26 (fun v36 wc => v36 = .bool false ∧ Hid (wc = wr))
      case first =>
        cases eb
        · have hf1 : decide (fi < 0) = false := hfb.resolve_left (by simp)
          go_wp2_with (go_at_call 93; refine HFI.out.mono ?_; rintro e w2 ⟨rfl, rfl⟩)
          go_meet
          case rel => exact ⟨rfl, Lib.hid rfl⟩
        · go_wp2_with fail
          go_meet
          case rel => exact ⟨rfl, Lib.hid rfl⟩
      case rest =>
        obtain ⟨rfl, hwc⟩ := hcut
        obtain rfl := hwc.out
        have c7 := H.out.cell 7 _ rfl
        have f7 := H.out.frozen 7
        obtain ⟨tr, htr⟩ : ∃ x, x = s.tries := ⟨_, rfl⟩
        rw [← htr] at c7 ht
        obtain ⟨ht1, ht2⟩ := ht
        have H1 : Hid (RefF (wc.setCell ⟨d, 7, none⟩ (.int .i64 (tr + 1))) F d { s with tries := tr + 1 } av (.slice NA s.now.length NC) ov rv pv vs) := Lib.hid (H.out.setN rfl rfl rfl rfl rfl rfl)
        have HO1 : Hid (Only F wc (wc.setCell ⟨d, 7, none⟩ (.int .i64 (tr + 1)))) := Lib.hid ((Only.refl F wc).setCell (p := ⟨d, 7, none⟩) (.inl H.out.Fd) _)
        have HTR := Lib.hid htr
        clear htr HFI HEB hfb c1 c3
        go_wp2_with fail
        obtain ⟨w1, hw1⟩ : ∃ W, W = wc.setCell ⟨d, 7, none⟩ (.int .i64 (tr + 1)) := ⟨_, rfl⟩
        rw [← hw1] at H1 HO1
        rw [← hw1]
        clear hw1 c7 f7
        obtain ⟨PA, pn, PC, rfl, hpn, hpc, hpm⟩ := H.out.plan.form
        have HPN : Hid (pn = s.plan.length) := hpn
        clear hpn
        go_loopg [8] pn (fun q i wr => ∃ (k : Nat), q = pn - k ∧ k ≤ pn ∧ i = .int .i64 k ∧ Hid (RefF wr F d { s with tries := tr + 1 } av (.slice NA s.now.length NC) ov rv (.slice PA pn PC) vs) ∧ Hid (Only F wc wr) ∧ Hid (∀ x ∈ s.plan.take k, x.1 ≠ s.tries + 1))
        case atStart => exact ⟨0, rfl, by omega, rfl, H1, HO1, Lib.hid (by simp)⟩
        case round =>
          obtain ⟨k, rfl, hk, rfl, HX, HOX, HNO⟩ := hrel
          obtain ⟨wx, rfl⟩ : ∃ W : World, W = wr := ⟨_, rfl⟩
          have c6 := HX.out.cell 6 _ rfl
          have c7 := HX.out.cell 7 _ rfl
          have c1 := HX.out.cell 1 _ rfl
          have f1 := HX.out.frozen 1
          simp only at c7 c1
          by_cases hkp : k < pn
          · have hkl : k < s.plan.length := by rw [← HPN.out]; exact hkp
            obtain ⟨A9, c9, he9, hps⟩ := HX.out.plan.slice
            simp only [Value.slice.injEq] at he9
            obtain ⟨rfl, -, rfl⟩ := he9
            obtain ⟨g, o, cs, rfl, hg, hcs, rfl, hw1, hw2⟩ := hps.at_ (i := k) hkl
            simp only at hcs hw1 hw2
            obtain ⟨pN, hpN⟩ : ∃ x, x = (s.plan[k]).1 := ⟨_, rfl⟩
            obtain ⟨pE, hpE⟩ : ∃ x, x = (s.plan[k]).2 := ⟨_, rfl⟩
            rw [← hpN, ← hpE] at hcs
            obtain ⟨k0, k1⟩ := hcs.two
            rw [show Rep.fault.n = 2 from rfl] at k0 k1
            have htk : s.plan.take (k + 1) = s.plan.take k ++ [s.plan[k]] := List.take_succ_eq_append_getElem hkl
            by_cases hhit : pN = tr + 1
            · have HTD := Lib.hid (tried_some hkl HNO.out (by rw [← hpN, hhit, HTR.out]))
              have HPE := Lib.hid hpE
              have hbe : (pN == tr + 1) = true := by rw [beq_iff_eq]; exact hhit
              have HHIT := Lib.hid hhit
              clear hcs hg hw1 hw2 hpN hpE htk hps hhit
              go_wp2_with fail
              go_quiet (fail)
              generalize hW : World.drewN _ _ = wy
              have hby : Below wx.heap.size wx wy := by rw [← hW]; exact below_dr _ _
              have HY := Lib.hid (HX.out.far hby)
              have HOY : Hid (Only F wc wy) := Lib.hid (HOX.out.trans (Only.of_below hby nob) fun _ h => h.elim)
              have hg2 : g < wx.heap.size := World.block_lt_of_cell? wx _ k0
              have k0y := (hby.cell (p := ⟨g, o + k * 2, none⟩) hg2).trans k0
              have k1y := (hby.cell (p := ⟨g, o + k * 2 + 1, none⟩) hg2).trans k1
              clear hW hby k0 k1 c6 c7 c1 f1
              have c6 := HY.out.cell 6 _ rfl
              have c1 := HY.out.cell 1 _ rfl
              have f1 := HY.out.frozen 1
              simp only at c1
              by_cases h24 : pE = 24
              · subst h24
                have H2 : Hid (RefF (wy.setCell ⟨d, 1, none⟩ (.bool false)) F d { s with tries := tr + 1, on := false } av (.slice NA s.now.length NC) ov rv (.slice (some ⟨g, o, none⟩) pn PC) vs) := Lib.hid (HY.out.setN rfl rfl rfl rfl rfl rfl)
                have HO2 : Hid (Only F wc (wy.setCell ⟨d, 1, none⟩ (.bool false))) := Lib.hid (HOY.out.setCell (p := ⟨d, 1, none⟩) (.inl H.out.Fd) _)
                have hgd : g ≠ d := by
                  intro e
                  obtain ⟨cur, hc⟩ := HY.out.plan.content (b := g) rfl
                  rw [e, HY.out.hd] at hc
                  injection hc with hc
                  injection hc with _ ht
                  exact absurd ht (by decide)
                have k1z : (wy.setCell ⟨d, 1, none⟩ (.bool false)).cell? ⟨g, o + k * 2 + 1, none⟩ = some (.int .i64 24) := (World.cell?_setCell_far wy ⟨d, 1, none⟩ ⟨g, o + k * 2 + 1, none⟩ _ (fun e => hgd e.symm)).trans k1y
                have c6z := H2.out.cell 6 _ rfl
                go_wp2_with fail
                go_ret
                have e : s.tried = ({ s with tries := tr + 1, on := false }, 24) := by rw [HTD.out, ← HPE.out, ← HTR.out]; simp
                refine ⟨by rw [HT2.out, e]; rfl, ?_, HO2.out⟩
                rw [HT2.out, e]
                exact H2.out.at_.up (fun _ h => .inl h) (grow_lt H.out.lt HO2.out.size)
              · have hb24 : (pE == 24) = false := beq_eq_false_iff_ne.2 h24
                have H24 := Lib.hid h24
                clear h24
                go_wp2_with fail
                go_ret
                have e : s.tried = ({ s with tries := tr + 1 }, pE) := by
                  rw [HTD.out, ← HPE.out, ← HTR.out]
                  have h1 : (pE != 24) = true := bne_iff_ne.2 H24.out
                  simp [h1]
                refine ⟨by rw [HT2.out, e]; rfl, ?_, HOY.out⟩
                rw [HT2.out, e]
                exact HY.out.at_.up (fun _ h => .inl h) (grow_lt H.out.lt HOY.out.size)
            · have hbe : (pN == tr + 1) = false := beq_eq_false_iff_ne.2 hhit
              have HNO2 : Hid (∀ x ∈ s.plan.take (k + 1), x.1 ≠ s.tries + 1) := Lib.hid (by
                intro x hx
                rw [htk] at hx
                rcases List.mem_append.1 hx with hx | hx
                · exact HNO.out x hx
                · rw [List.mem_singleton.1 hx, ← hpN, ← HTR.out]; exact hhit)
              clear hcs hg hw1 hw2 hpN hpE htk hps hhit
              go_wp2_with fail
              go_quiet (fail)
              generalize hW : World.drewN _ _ = wy
              have hby : Below wx.heap.size wx wy := by rw [← hW]; exact below_dr _ _
              have HY := Lib.hid (HX.out.far hby)
              have HOY : Hid (Only F wc wy) := Lib.hid (HOX.out.trans (Only.of_below hby nob) fun _ h => h.elim)
              clear hW hby k0 k1 c6 c7 c1 f1
              go_wp2_with fail
              go_roundg (pn - (k + 1))
              case measure => omega
              case rel => exact ⟨k + 1, rfl, by omega, by go_num, HY, HOY, HNO2⟩
          · obtain rfl : k = pn := by omega
            have HTD := Lib.hid (tried_none fun x hx => HNO.out x (by rw [HPN.out, List.take_length]; exact hx))
            go_wp2_with fail
            go_ret
            refine ⟨by rw [HT2.out, HTD.out]; rfl, ?_, HOX.out⟩
            rw [HT2.out, HTD.out]
            have h := HX.out.at_.up (G := grow F wc wx) (fun _ h => .inl h) (grow_lt H.out.lt HOX.out.size)
            rw [HTR.out] at h
            exact h
end
end Go.Proofs.YtncpeogkccjmcaaGreatDoor
namespace Go.Proofs.YtncpeogkccjmcaaGreatDoor
open Go.RowKit Go.ChangeShapes Go.WideShapes Go.Deep

def chgV (src dst : ByteArray) (id : Nat) : Array Value := #[.string src, .string dst, .int .i64 id]
def chgOf (src dst : ByteArray) (id : Nat) : Disk.Chg := ⟨src.data.toList, dst.data.toList, id⟩
theorem three {wr : World} {b : Nat} {v0 v1 v2 : Value} {t : TypeId} (h : wr.heap[b]? = some (.cells #[v0, v1, v2] t (0, 0))) :
    wr.cell? ⟨b, 0, none⟩ = some v0 ∧ wr.cell? ⟨b, 1, none⟩ = some v1 ∧ wr.cell? ⟨b, 2, none⟩ = some v2 :=
  ⟨(cell_of_row _ _ 0 _ _ (0, 0) h).trans rfl, (cell_of_row _ _ 1 _ _ (0, 0) h).trans rfl, (cell_of_row _ _ 2 _ _ (0, 0) h).trans rfl⟩
theorem behind_eq (l : Disk.Fo) (src dst : Disk.Nm) (id : Nat) : Disk.behind l ⟨src, dst, id⟩ = if dst = [] then (if src = [] then l else Disk.drop l src) else Disk.put (if src = [] then l else Disk.drop l src) dst id := rfl
theorem len_ba (x : ByteArray) : x.data.toList.length = x.size := Array.length_toList
theorem grow_set (F : Blocks) (w w' : World) (p : Addr) (u : Value) : grow F w (w'.setCell p u) = grow F w w' := by
  unfold grow
  rw [show (w'.setCell p u).heap.size = w'.heap.size from by simp [World.setCell]]
def BehindPost (w : World) (n : Nat) (l : Disk.Fo) (e : Ending) (w' : World) : Prop :=
  ∃ A' n' c', e = .returned (.slice A' n' c') ∧ Hid (n' = l.length) ∧ n' ≤ n + 1 ∧ n' ≤ c' ∧ c' ≤ 9223372036854775807 ∧ Own Rep.ent 116 w' w.heap.size nob (.slice A' n' c') l ∧ Below w.heap.size w w'
section
variable {w : World}
set_option maxRecDepth 100000 in
set_option maxHeartbeats 2000000 in
theorem behind_any (l : Disk.Fo) (src dst : ByteArray) (id : Nat) (A : Option Addr) (n c : Nat) (S : Blocks) (hn : Hid (n = l.length)) (hl : Hid (SliceAt Rep.ent w S A c l)) (hS : Hid (∀ b, S b → b < w.heap.size)) (hnb : n ≤ 2147483647) (hd : Hid (dst.size ≤ maxLen)) (hib : id ≤ 1125899906842624) (hne : Hid (src.data.toList ≠ [] ∨ dst.data.toList ≠ [])) :
    Calls Tryz.prog 97 #[.slice A n c, .agg #[.string src, .string dst, .int .i64 id]] w (BehindPost w n (Disk.behind l (chgOf src dst id))) := by
  have hnc : n ≤ c := by rw [hn.out]; exact hl.out.len
  have hcm := hl.out.max
  obtain ⟨W, hW⟩ : ∃ W, W = w.alloc (.cells #[.string src, .string dst, .int .i64 id] 129) := ⟨_, rfl⟩
  have hbW : Below w.heap.size w W := by rw [hW]; exact Below.alloc (Below.refl _ _) (Nat.le_refl _) _
  have hbox : W.heap[w.heap.size]? = some (.cells #[.string src, .string dst, .int .i64 id] 129 (0, 0)) := by rw [hW]; exact heap_alloc_new _ _
  have hwlt : w.heap.size < W.heap.size := (Array.getElem?_eq_some_iff.1 hbox).1
  have hbx : Hid (∀ wr, Below W.heap.size W wr → wr.heap[w.heap.size]? = some (.cells #[.string src, .string dst, .int .i64 id] 129 (0, 0))) := Lib.hid fun wr ho => (ho.block _ hwlt).trans hbox
  have HLW : Hid (SliceAt Rep.ent W S A c l) := Lib.hid (hl.out.keep (fun _ h => h) (Same.of_below hbW hS.out))
  have HSW : Hid (∀ b, S b → b < W.heap.size) := Lib.hid fun b hb => Nat.lt_trans (hS.out b hb) hwlt
  have HBW := Lib.hid hbW
  have HWL := Lib.hid hwlt
  obtain ⟨es, hes⟩ : ∃ b, src.toList.isEmpty = b := ⟨_, rfl⟩
  obtain ⟨ed, hed⟩ : ∃ b, dst.toList.isEmpty = b := ⟨_, rfl⟩
  have HES : Hid ((src.data.toList = []) ↔ es = true) := Lib.hid (by rw [← hes, empty_b]; simp)
  have HED : Hid ((dst.data.toList = []) ↔ ed = true) := Lib.hid (by rw [← hed, empty_b]; simp)
  obtain ⟨c0, c1, c2⟩ := three hbox
  cases es
  · have hsn : ¬ src.data.toList = [] := fun h => by simpa using HES.out.1 h
    have HD := Lib.hid (refDrop_any (w := W) l src A n c S hn HLW HSW (by omega))
    cases ed
    · have hdn : ¬ dst.data.toList = [] := fun h => by simpa using HED.out.1 h
      have HE : Hid (Disk.behind l (chgOf src dst id) = Disk.put (Disk.drop l src.data.toList) dst.data.toList id) := Lib.hid ((behind_eq l _ _ id).trans (by rw [if_neg hdn, if_neg hsn]))
      rw [HE.out]
      clear hsn hdn
      go_enter Tryz.func97, Tryz.ntmps97
      go_wp2_with fail
      rw [← hW]
      clear hW hbW hbox hwlt
      go_wp2_with fail
      refine HD.out.mono ?_
      rintro e w1 ⟨A1, n1, cc1, rfl, hn1, hn1b, hnc1, hcm1, hown, hb1⟩
      obtain ⟨A9, c9, he9, hsl⟩ := hown.slice
      simp only [Value.slice.injEq] at he9
      obtain ⟨rfl, -, rfl⟩ := he9
      have HB1 := Lib.hid hb1
      have HP := Lib.hid (refPut_any (w := w1) (Disk.drop l src.data.toList) dst id A1 n1 cc1 (fun b => b < w1.heap.size) hn1 (Lib.hid (hsl.up fun b hb => hb.elim (fun h => h.2.1) fun h => h.elim)) (Lib.hid fun _ h => h) (by omega) hd hib)
      clear c0 c1 c2 hown hsl
      obtain ⟨c0, c1, c2⟩ := three (hbx.out w1 hb1)
      clear hb1
      go_wp2_with fail
      refine HP.out.mono ?_
      rintro e w2 ⟨A2, n2, cc2, rfl, hn2, hn2b, hnc2, hcm2, hown2, hb2⟩
      have HN2 := hn2
      have HO2 := Lib.hid hown2
      have HB2 := Lib.hid hb2
      clear hown2 hb2 hn2
      go_wp2_with fail
      go_ret
      exact ⟨A2, n2, cc2, rfl, HN2, by omega, hnc2, hcm2, HO2.out.low (Nat.le_trans HBW.out.size HB1.out.size), HBW.out.trans ((HB1.out.mono HBW.out.size).trans (HB2.out.mono (Nat.le_trans HBW.out.size HB1.out.size)))⟩
    · have hdn : dst.data.toList = [] := HED.out.2 rfl
      have HE : Hid (Disk.behind l (chgOf src dst id) = Disk.drop l src.data.toList) := Lib.hid ((behind_eq l _ _ id).trans (by rw [if_pos hdn, if_neg hsn]))
      rw [HE.out]
      clear hsn hdn
      go_enter Tryz.func97, Tryz.ntmps97
      go_wp2_with fail
      rw [← hW]
      clear hW hbW hbox hwlt
      go_wp2_with fail
      refine HD.out.mono ?_
      rintro e w1 ⟨A1, n1, cc1, rfl, hn1, hn1b, hnc1, hcm1, hown, hb1⟩
      have HN1 := hn1
      have HO1 := Lib.hid hown
      have HB1 := Lib.hid hb1
      clear c0 c1 c2 hown hn1
      obtain ⟨c0, c1, c2⟩ := three (hbx.out w1 hb1)
      clear hb1
      go_wp2_with fail
      go_ret
      exact ⟨A1, n1, cc1, rfl, HN1, by omega, hnc1, hcm1, HO1.out.low HBW.out.size, HBW.out.trans (HB1.out.mono HBW.out.size)⟩
  · have hsn : src.data.toList = [] := HES.out.2 rfl
    have hdn : ¬ dst.data.toList = [] := hne.out.resolve_left fun h => h hsn
    have HE : Hid (Disk.behind l (chgOf src dst id) = Disk.put l dst.data.toList id) := Lib.hid ((behind_eq l _ _ id).trans (by rw [if_neg hdn, if_pos hsn]))
    rw [HE.out]
    obtain rfl : ed = false := by
      cases ed
      · rfl
      · exact absurd (HED.out.2 rfl) hdn
    have HP := Lib.hid (refPut_any (w := W) l dst id A n c S hn HLW HSW (by omega) hd hib)
    clear hsn hdn
    go_enter Tryz.func97, Tryz.ntmps97
    go_wp2_with fail
    rw [← hW]
    clear hW hbW hbox hwlt
    go_wp2_with fail
    refine HP.out.mono ?_
    rintro e w2 ⟨A2, n2, cc2, rfl, hn2, hn2b, hnc2, hcm2, hown2, hb2⟩
    have HN2 := hn2
    have HO2 := Lib.hid hown2
    have HB2 := Lib.hid hb2
    clear hown2 hb2 hn2
    go_wp2_with fail
    go_ret
    exact ⟨A2, n2, cc2, rfl, HN2, hn2b, hnc2, hcm2, HO2.out.low HBW.out.size, HBW.out.trans (HB2.out.mono HBW.out.size)⟩
theorem enters_behind : ∀ args w, (callFunc 97 args).run Tryz.prog w = .ok (.enter 97 args) w := enters_of Tryz.func97 (by kernel_rfl) rfl
theorem stRchg : SliceType Tryz.prog 90 129 3 40 := SliceType.mk' (z := .agg #[.string ⟨#[]⟩, .string ⟨#[]⟩, .int .i64 0]) Tryz.underlying90 (by kernel_rfl) rfl (by omega)
variable {F : Blocks} {d : Nat} {s : Disk.St}
/-- The folder is changed, the change is not yet told. -/
def midS (s : Disk.St) (c : Disk.Chg) : Disk.St := { s with now := Disk.behind s.now c }
theorem RefF.mid {w w' : World} {av nv ov rv pv v : Value} {vs : List TN} {c : Disk.Chg} (h : RefF w F d s av nv ov rv pv vs) (hb : Below w.heap.size w w') (hv : Own Rep.ent 116 w' w.heap.size nob v (Disk.behind s.now c)) : RefF (w'.setCell ⟨d, 3, none⟩ v) (grow F w (w'.setCell ⟨d, 3, none⟩ v)) d (midS s c) av v ov rv pv vs := by
  rw [grow_set]
  have h' := (h.far hb).up (G := grow F w w') (fun _ h => .inl h) (grow_lt h.lt hb.size)
  exact h'.set rfl h'.all h'.is_ h'.rows (EntF.of_own hv fun b h1 h2 => .inr ⟨h1, h2⟩) h'.old h'.row h'.plan h'.Fa h'.Fb h'.Fr h'.Fp
theorem RefF.tell {w wa w3 : World} {av nv ov rv pv v3 : Value} {vs : List TN} {c : Disk.Chg} {G : Blocks} (h : RefF w G d (midS s c) av nv ov rv pv vs) (hb : Below w.heap.size w wa) (hg : wa.grownBy w3 rv.ownBlock) (hat : v3.ownBlock = rv.ownBlock ∨ v3.ownBlock = some wa.heap.size) (h3 : Own Rep.rchg 129 w3 0 nob v3 (s.row ++ [c])) :
    RefF (w3.setCell ⟨d, 5, none⟩ v3) (grow G w (w3.setCell ⟨d, 5, none⟩ v3)) d (s.changes c) av nv ov v3 pv vs ∧ w3.cell? ⟨d, 5, none⟩ = some rv ∧ w3.frozen? ⟨d, 5, none⟩ = false ∧ Only G w (w3.setCell ⟨d, 5, none⟩ v3) := by
  rw [grow_set]
  have h' := h.far hb
  have ho : Only (fun b => rv.ownBlock = some b) wa w3 := Only.of_grown hg _ fun b hb => hb.symm
  have hty : ∀ {b : Nat}, rv.ownBlock = some b → ∃ cur, wa.heap[b]? = some (.cells cur 129 (0, 0)) := fun hb => h'.row.content hb
  have hsz : w.heap.size ≤ w3.heap.size := Nat.le_trans hb.size ho.size
  have hG3 : ∀ b, grow G w w3 b → b < w3.heap.size := grow_lt h.lt hsz
  have hd3 : w3.heap[d]? = _ := (ho.block d (h'.lt d h'.Fd) fun e => h'.row.ne_block h'.hd (by decide) e).trans h'.hd
  refine ⟨?_, (cell_of_row w3 d 5 _ _ (0, 0) hd3).trans rfl, by simp [World.frozen?, hd3], ?_⟩
  · have ho2 : Only (fun b => b = d) w3 (w3.setCell ⟨d, 5, none⟩ v3) := (Only.refl (fun b => b = d) w3).setCell (p := ⟨d, 5, none⟩) (.inl rfl) v3
    have hall : Own Rep.nodeV 95 w3 0 nob av vs := h'.all.only ho fun b hb e => by obtain ⟨cur, hc⟩ := hty e; exact h'.all.ne_block hc (by decide) hb
    have hrows : RowsV w3 0 (vs.map fun x => (x.2, x.1.bytes)) := h'.rows.only ho fun x hx b hb e => by obtain ⟨cur, hc⟩ := hty e; exact h'.rows.ne hc (by decide) x hx hb
    have hplan : Own Rep.fault 123 w3 0 nob pv s.plan := h'.plan.only ho fun b hb e => by obtain ⟨cur, hc⟩ := hty e; exact h'.plan.ne_block hc (by decide) hb
    have hnow : EntF w3 (grow G w w3) nv (Disk.behind s.now c) := h'.now.same (fun _ h => .inl h) fun b hb => ho.block b hb.lt fun e => by obtain ⟨cur, hc⟩ := hty e; exact hb.ne hc (by decide) rfl
    have hold : EntF w3 (grow G w w3) ov s.old := h'.old.same (fun _ h => .inl h) fun b hb => ho.block b hb.lt fun e => by obtain ⟨cur, hc⟩ := hty e; exact hb.ne hc (by decide) rfl
    refine ⟨?_, hall.only ho2 fun b hb e => ?_, h'.is_, hrows.only ho2 fun x hx b hb e => ?_, hnow.same (fun _ h => h) fun b hb => ho2.block b hb.lt (hb.ne hd3 (by decide)), hold.same (fun _ h => h) fun b hb => ho2.block b hb.lt (hb.ne hd3 (by decide)), h3.only ho2 fun b hb e => ?_, hplan.only ho2 fun b hb e => ?_, .inl h.Fd, fun b hb => .inl (h.Fa b hb), fun x hx b hb => .inl (h.Fb x hx b hb), fun b hb => ?_, fun b hb => .inl (h.Fp b hb), fun b hb => Nat.lt_of_lt_of_le (hG3 b hb) ho2.size⟩
    · simp only [World.setCell, Array.getElem?_modify, if_true, hd3, Option.map_some]
      rfl
    · subst e; exact hall.ne_block hd3 (by decide) hb
    · subst e; exact hrows.ne hd3 (by decide) x hx hb
    · subst e; exact h3.ne_block hd3 (by decide) hb
    · subst e; exact hplan.ne_block hd3 (by decide) hb
    · rcases hat with e | e
      · rw [e] at hb; exact .inl (h.Fr b hb)
      · rw [e] at hb
        simp only [Option.some.injEq] at hb
        subst hb
        right
        exact ⟨hb.size, (h3.block_lt e).2⟩
  · exact ((Only.of_below hb G).trans ho fun b hb => .inl (h.Fr b hb)).setCell (p := ⟨d, 5, none⟩) (.inl h.Fd) _
set_option maxRecDepth 100000 in
set_option maxHeartbeats 4000000 in
theorem refChanges_any (src dst : ByteArray) (id : Nat) (HA : Hid (RefFA w F d s)) (hs : Hid (src.size ≤ maxLen)) (hd : Hid (dst.size ≤ maxLen)) (hib : id ≤ 1125899906842624) (hne : Hid (src.data.toList ≠ [] ∨ dst.data.toList ≠ [])) (hnl : s.now.length ≤ 2147483647) (hrl : s.row.length ≤ 1099511627776) :
    Calls Tryz.prog 94 #[.pointer (some ⟨d, 0, none⟩), .agg #[.string src, .string dst, .int .i64 id]] w fun e w' => e = .returned (.tuple #[]) ∧ RefFA w' (grow F w w') d (s.changes (chgOf src dst id)) ∧ Only F w w' := by
  obtain ⟨av, nv, ov, rv, pv, vs, hR⟩ := HA.out
  obtain ⟨W, hW⟩ : ∃ W, W = w.alloc (.cells #[.string src, .string dst, .int .i64 id] 129) := ⟨_, rfl⟩
  have hbW : Below w.heap.size w W := by rw [hW]; exact Below.alloc (Below.refl _ _) (Nat.le_refl _) _
  have hbox : W.heap[w.heap.size]? = some (.cells #[.string src, .string dst, .int .i64 id] 129 (0, 0)) := by rw [hW]; exact heap_alloc_new _ _
  have hwlt : w.heap.size < W.heap.size := (Array.getElem?_eq_some_iff.1 hbox).1
  have H := Lib.hid (hR.far hbW)
  have hFb : ¬ F w.heap.size := fun h => by have := hR.lt _ h; omega
  have HLT := Lib.hid hR.lt
  clear hR
  obtain ⟨NA, NC, rfl, hsn⟩ := H.out.now
  obtain ⟨nn, hnn⟩ : ∃ x, x = s.now.length := ⟨_, rfl⟩
  have c3 := H.out.cell 3 _ rfl
  rw [← hnn] at c3 hnl
  have HN := Lib.hid hnn
  have HSN := Lib.hid hsn
  have HBH : Hid (∀ W', Below W.heap.size W W' → Calls Tryz.prog 97 #[.slice NA nn NC, .agg #[.string src, .string dst, .int .i64 id]] W' (BehindPost W' nn (Disk.behind s.now (chgOf src dst id)))) := Lib.hid fun W' hb =>
    behind_any s.now src dst id NA nn NC (EntIn W F) HN (Lib.hid (HSN.out.keep (fun _ h => h) (Same.of_below hb fun b h => h.lt))) (Lib.hid fun b h => Nat.lt_of_lt_of_le h.lt hb.size) hnl hd hib hne
  have HBX := Lib.hid hbox
  have HBW := Lib.hid hbW
  have HWL := Lib.hid hwlt
  obtain ⟨b0, b1, b2⟩ := three hbox
  go_enter Tryz.func94, Tryz.ntmps94
  go_wp2_with fail
  rw [← hW]
  clear hW hbW hbox hwlt hsn hnn
  go_upto_region 1 with fail
  go_cut [] from 4 (fun wc => ∃ nv, Hid (RefF wc (grow F W wc) d (midS s (chgOf src dst id)) av nv ov rv pv vs) ∧ Hid (Only F W wc))
  case first =>
    go_region_law (first
      | (refine step_call_law rfl 97 #[.tmp 8, .tmp 9] #[89, 129] rfl enters_behind #[.slice NA nn NC, .agg #[.string src, .string dst, .int .i64 id]] (by simp [Act.eval]) _ (HBH.out _ ⟨rfl, rfl, rfl, Nat.le_refl _, fun _ _ => rfl⟩) ?_; rintro e w10 ⟨A', n', c', rfl, -, -, -, -, hown, hb10⟩; have HOWN := Lib.hid hown; have HB10 : Hid (Below W.heap.size W w10) := Lib.hid ⟨hb10.os, hb10.tape, hb10.output, hb10.size, hb10.block⟩; have s1 : w10.cell? ⟨d, 3, none⟩ = some (.slice NA nn NC) := (HB10.out.cell (p := ⟨d, 3, none⟩) (H.out.lt d H.out.Fd)).trans c3; have s2 : w10.frozen? ⟨d, 3, none⟩ = false := (by simp [World.frozen?, HB10.out.block _ (H.out.lt d H.out.Fd), H.out.hd]); clear hown hb10; refine ⟨_, rfl, ?_⟩)
      | fail)
    all_goals
      have HM := Lib.hid (H.out.mid HB10.out HOWN.out)
      have HO : Hid (Only F W (w10.setCell ⟨d, 3, none⟩ (.slice A' n' c'))) := Lib.hid ((Only.of_below HB10.out F).setCell (p := ⟨d, 3, none⟩) (.inl H.out.Fd) _)
      go_wp2_with fail
      go_meet
      case rel => exact ⟨_, HM, HO⟩
  case rest =>
    obtain ⟨nv2, HM, HO⟩ := hcut
    clear c3 b0 b1 b2 HBH
    obtain ⟨b0, b1, b2⟩ := three ((HO.out.block _ HWL.out hFb).trans HBX.out)
    obtain ⟨rA, rn, rc, rfl, hrn, hrc, hrm⟩ := HM.out.row.form
    have hrn2 : Hid (rn = s.row.length) := hrn
    have c5 : wc.cell? ⟨d, 5, none⟩ = some (.slice rA rn rc) := HM.out.cell 5 _ rfl
    have hRW : Hid (Own Rep.rchg 129 wc 0 nob (.slice rA rn rc) s.row) := Lib.hid HM.out.row
    have c5a : ∀ ob, (wc.alloc ob).cell? ⟨d, 5, none⟩ = some (.slice rA rn rc) := fun ob => ((Below.alloc (Below.refl wc.heap.size wc) (Nat.le_refl _) ob).cell (p := ⟨d, 5, none⟩) (HM.out.lt d HM.out.Fd)).trans c5
    have hrb : rn ≤ 1099511627776 := by rw [hrn2.out]; exact hrl
    have HSL : Hid (src.data.toList.length ≤ maxLen) := Lib.hid (by rw [len_ba]; exact hs.out)
    have HDL : Hid (dst.data.toList.length ≤ maxLen) := Lib.hid (by rw [len_ba]; exact hd.out)
    clear hrn
    go_wp2_with fail
    go_region_law (first
      | (refine step_append_Own rfl (.tmp 17) (.tmp 19) 90 rfl Rep.rchg 0 129 40 stRchg nob (.slice rA rn rc) s.row (by simp [Act.eval]) (hRW.out.alloc _) _ (some ⟨_, 0, none⟩) 1 [chgOf src dst id] (by simp [Act.eval]) (SliceAt.new1 Rep.rchg _ _ _ (chgOf src dst id) nob ⟨rfl, HSL.out, HDL.out, hib⟩ (fun _ h => h.elim)) nob (fun _ h => h.elim) (fun _ h => h) (fun _ _ h => h) (by have := hrn2.out; simp <;> omega) (by have := hrn2.out; simp <;> omega) (Nat.zero_le _) ?_; intro v3 w13 hown3 hg3 hat3; obtain ⟨tA, tn, tc, rfl, -, -, -⟩ := hown3.form; obtain ⟨hm3, s1, s2, ho3⟩ := HM.out.tell (by first | exact (Below.alloc (Below.refl _ _) (Nat.le_refl _) _).drew | exact Below.alloc (Below.refl _ _) (Nat.le_refl _) _) hg3 hat3 hown3; have HM3 := Lib.hid hm3; have HO3 := Lib.hid ho3; clear hown3 hg3 hat3 hm3 ho3)
      | fail)
    all_goals
      go_wp2_with fail
      go_end0
      have hgr : ∀ b, grow (grow F W wc) wc (w13.setCell ⟨d, 5, none⟩ (.slice tA tn tc)) b → grow F w (w13.setCell ⟨d, 5, none⟩ (.slice tA tn tc)) b := by
        intro b hb
        have h1 := HBW.out.size
        have h2 := HO.out.size
        have h3 := HO3.out.size
        rcases hb with (hb | hb) | hb
        · exact .inl hb
        · exact .inr ⟨Nat.le_trans h1 hb.1, Nat.lt_of_lt_of_le hb.2 h3⟩
        · exact .inr ⟨Nat.le_trans (Nat.le_trans h1 h2) hb.1, hb.2⟩
      refine ⟨rfl, HM3.out.at_.up hgr (grow_lt HLT.out (Nat.le_trans HBW.out.size (Nat.le_trans HO.out.size HO3.out.size))), ?_⟩
      exact ((Only.of_below HBW.out F).trans HO.out fun _ h => .inl h).trans HO3.out fun b hb => hb.elim .inl fun hb => .inr (Nat.le_trans HBW.out.size hb.1)
end
end Go.Proofs.YtncpeogkccjmcaaGreatDoor
namespace Go.Proofs.YtncpeogkccjmcaaGreatDoor
open Go.RowKit Go.ChangeShapes Go.WideShapes Go.Deep

/-- The document's disk behind a row of calls. -/
structure Rk (w0 w : World) (F : Blocks) (d : Nat) (s : Disk.St) : Prop where
  at_ : RefFA w (grow F w0 w) d s
  only : Only F w0 w
section
variable {w0 w w' : World} {F G : Blocks} {d : Nat} {s t : Disk.St}
theorem RefFA.lt (h : RefFA w F d s) : ∀ b, F b → b < w.heap.size := by
  obtain ⟨av, nv, ov, rv, pv, vs, h⟩ := h
  exact h.lt
theorem Rk.start (h : RefFA w F d s) : Rk w w F d s := ⟨h.up (fun _ hb => .inl hb) (grow_lt h.lt (Nat.le_refl _)), Only.refl _ _⟩
theorem Rk.next (h : Rk w0 w F d s) (hF : ∀ b, F b → b < w0.heap.size) (h1 : RefFA w' (grow (grow F w0 w) w w') d t) (h2 : Only (grow F w0 w) w w') : Rk w0 w' F d t :=
  ⟨h1.up (grow_step h.only.size h2.size) (grow_lt hF (Nat.le_trans h.only.size h2.size)), h.only.trans h2 fun _ hx => hx.elim .inl fun hx => .inr hx.1⟩
theorem Rk.call {r : Disk.St × Int} {e : Ending} (h : Rk w0 w F d s) (hF : ∀ b, F b → b < w0.heap.size) (hc : RefCall w (grow F w0 w) d r e w') : e = .returned (.int .i64 r.2) ∧ Rk w0 w' F d r.1 := ⟨hc.1, h.next hF hc.2.1 hc.2.2⟩
theorem Rk.far (h : Rk w0 w F d s) (hF : ∀ b, F b → b < w0.heap.size) (hb : Below w.heap.size w w') : Rk w0 w' F d s :=
  h.next hF ((h.at_.far hb).up (fun _ hb => .inl hb) (grow_lt h.at_.lt hb.size)) (Only.of_below hb _)
/-- A cell of its block written over. -/
theorem Rk.set {k : Nat} {u av nv ov rv pv : Value} {vs : List TN} (h : Rk w0 w F d s) (_ : ∀ b, F b → b < w0.heap.size) (h1 : RefF (w.setCell ⟨d, k, none⟩ u) (grow F w0 w) d t av nv ov rv pv vs) : Rk w0 (w.setCell ⟨d, k, none⟩ u) F d t :=
  ⟨by rw [grow_set]; exact h1.at_, h.only.setCell (p := ⟨d, k, none⟩) (h1.Fd.elim .inl fun h => .inr h.1) _⟩
theorem Rk.done (h : Rk w w' F d t) {e : Ending} {q : Int} (he : e = .returned (.int .i64 q)) : RefCall w F d (t, q) e w' := ⟨he, h.at_, h.only⟩
/-- What is planned. -/
def PlanE (s : Disk.St) : Prop := ∀ f ∈ s.plan, f.2 = 23 ∨ f.2 = 22 ∨ f.2 = 24
theorem tried_e (h : PlanE s) : s.tried.2 = 0 ∨ s.tried.2 = 23 ∨ s.tried.2 = 22 ∨ s.tried.2 = 24 := by
  unfold Disk.St.tried
  split
  · exact .inl rfl
  · rename_i f hf
    exact .inr (h f (List.mem_of_find?_eq_some hf))
theorem tryS_kept (s : Disk.St) (ns : List Disk.Nm) (has : Disk.Nm) : (s.tryS ns has).1.row = s.row ∧ (s.tryS ns has).1.done = s.done ∧ (s.tryS ns has).1.all = s.all ∧ (s.tryS ns has).1.now = s.now ∧ (s.tryS ns has).1.room = s.room := by
  unfold Disk.St.tryS
  split
  · exact ⟨rfl, rfl, rfl, rfl, rfl⟩
  · split
    · exact ⟨rfl, rfl, rfl, rfl, rfl⟩
    · obtain ⟨h1, h2, h3, h4, h5, h6, -⟩ := Disk.tried_kept s
      exact ⟨h1, h2, h3, h4, h6⟩
set_option maxRecDepth 100000 in
set_option maxHeartbeats 4000000 in
theorem refSyncDir_any (HA : Hid (RefFA w F d s)) (ht : 0 ≤ s.tries ∧ s.tries ≤ 4611686018427387904) (hdn : 0 ≤ s.done ∧ s.done ≤ 4611686018427387904) :
    Calls Tryz.prog 49 #[.pointer (some ⟨d, 0, none⟩)] w (RefCall w F d s.syncDir) := by
  have HLT := Lib.hid HA.out.lt
  have HTRY := Lib.hid (refTry_any (w := w) [] ⟨#[]⟩ none 0 0 nob HA (Lib.hid rfl) (Lib.hid (SliceAt.nil _ _ _)) (Lib.hid fun _ h => h.elim) ht)
  have HC : Hid (s.syncDir = if (s.tryS [] []).2 ≠ 0 then s.tryS [] [] else ((s.tryS [] []).1.settled.more, 0)) := Lib.hid (call_try s [] [] _)
  have K0 := Lib.hid (Rk.start HA.out)
  have hkp := tryS_kept s [] []
  go_enter Tryz.func49, Tryz.ntmps49
  go_wp2_with fail
  refine HTRY.out.mono ?_
  rintro e w1 ⟨rfl, h1, h2⟩
  have K1 : Hid (Rk w w1 F d (s.tryS [] []).1) := Lib.hid ⟨h1, h2⟩
  rw [show (s.tryS (List.map (fun x : ByteArray => x.data.toList) []) (⟨#[]⟩ : ByteArray).data.toList) = s.tryS [] [] from rfl]
  obtain ⟨r, hr⟩ : ∃ r, s.tryS [] [] = r := ⟨_, rfl⟩
  rw [hr] at K1 HC hkp ⊢
  obtain ⟨t, ev⟩ := r
  simp only at K1 HC hkp ⊢
  clear h1 h2 hr HTRY
  by_cases hev : ev = 0
  · subst hev
    obtain ⟨av, nv, ov, rv, pv, vs, hR⟩ := K1.out.at_
    obtain ⟨NA, NC, rfl, -⟩ := hR.now
    obtain ⟨nn, hnn⟩ : ∃ x, x = t.now.length := ⟨_, rfl⟩
    have c3 := hR.cell 3 _ rfl
    have c4 := hR.cell 4 _ rfl
    have f4 := hR.frozen 4
    rw [← hnn] at c3
    have hR2 : RefF (w1.setCell ⟨d, 4, none⟩ (.slice NA nn NC)) (grow F w w1) d { t with old := t.now } av (.slice NA nn NC) (.slice NA nn NC) rv pv vs := hR.set (by rw [← hnn]; rfl) hR.all hR.is_ hR.rows (by rw [hnn]; exact hR.now) (by rw [hnn]; exact hR.now) hR.row hR.plan hR.Fa hR.Fb hR.Fr hR.Fp
    have K2 := Lib.hid (K1.out.set HLT.out hR2)
    have HR2 := Lib.hid hR2
    clear hR hR2 hnn
    go_upto_region 5 with fail
    obtain ⟨w2, hw2⟩ : ∃ W, W = w1.setCell ⟨d, 4, none⟩ (.slice NA nn NC) := ⟨_, rfl⟩
    rw [← hw2] at K2 HR2
    rw [← hw2]
    have c5 := HR2.out.cell 5 _ rfl
    have f5 := HR2.out.frozen 5
    have hR3 : RefF (w2.setCell ⟨d, 5, none⟩ (.slice none 0 0)) (grow F w w1) d { t with old := t.now, row := [] } av (.slice NA nn NC) (.slice NA nn NC) (.slice none 0 0) pv vs := HR2.out.set rfl HR2.out.all HR2.out.is_ HR2.out.rows HR2.out.now HR2.out.old (Own.nil _ _ _ _) HR2.out.plan HR2.out.Fa HR2.out.Fb (fun b hb => by simp [Value.ownBlock] at hb) HR2.out.Fp
    have hg2 : grow F w w1 = grow F w w2 := by rw [hw2, grow_set]
    rw [hg2] at hR3
    have K3 := Lib.hid (K2.out.set HLT.out hR3)
    have HR3 := Lib.hid hR3
    clear hw2 hR3 hg2 c3 c4 f4
    go_upto_region 6 with fail
    obtain ⟨w3, hw3⟩ : ∃ W, W = w2.setCell ⟨d, 5, none⟩ (.slice none 0 0) := ⟨_, rfl⟩
    rw [← hw3] at K3 HR3
    rw [← hw3]
    have hg3 : grow F w w2 = grow F w w3 := by rw [hw3, grow_set]
    rw [hg3] at HR3
    have c8 := HR3.out.cell 8 _ rfl
    have f8 := HR3.out.frozen 8
    simp only at c8
    have hdt : t.done = s.done := hkp.2.1
    rw [← hdt] at hdn
    obtain ⟨dn, hdn2⟩ : ∃ x, x = t.done := ⟨_, rfl⟩
    rw [← hdn2] at c8 hdn
    obtain ⟨hd1, hd2⟩ := hdn
    have K4 := Lib.hid (K3.out.set HLT.out (HR3.out.setN (t := t.settled.more) (k := 8) (u := .int .i64 (dn + 1)) (by rw [hdn2]; rfl) rfl rfl rfl rfl rfl))
    have HC2 := Lib.hid (HC.out.trans (if_neg (by simp)))
    clear hw3 hg3 hdt hdn2 c5 f5
    go_wp2_with fail
    go_ret
    rw [HC2.out]
    exact K4.out.done rfl
  · have hb0 : (ev != 0) = true := bne_iff_ne.2 hev
    have HC2 := Lib.hid (HC.out.trans (if_pos hev))
    clear hev
    go_wp2_with fail
    go_ret
    rw [HC2.out]
    exact K1.out.done rfl
end
end Go.Proofs.YtncpeogkccjmcaaGreatDoor
namespace Go.Proofs.YtncpeogkccjmcaaGreatDoor
open Go.RowKit Go.ChangeShapes Go.WideShapes Go.Deep

section
variable {w : World} {base g n c : Nat} {e : TypeId} {α : Type} {r : Rep α} {l : List α}
/-- One cell of an element written over. -/
theorem Own.setCellN (h : Own r e w base nob (.slice (some ⟨g, 0, none⟩) n c) l) {k : Nat} (hk : k < l.length) :
    ∃ cs, r.is w nob cs l[k] ∧ CellsAt w g (k * r.n) cs ∧ ∀ (j : Nat) (u : Value) (x : α), j < r.n → r.is w nob (cs.set j u) x → Own r e (w.setCell ⟨g, k * r.n + j, none⟩ u) base nob (.slice (some ⟨g, 0, none⟩) n c) (l.set k x) := by
  obtain ⟨xs, hx, hS, h1, hr⟩ := h
  have hle : k * r.n + r.n ≤ l.length * r.n := by rw [← Nat.succ_mul]; exact Nat.mul_le_mul_right _ hk
  have hxl := hx.1
  refine ⟨(xs.drop (k * r.n)).take r.n, hr k hk, ?_, fun j u x hj hz => ?_⟩
  · rcases hx.2 with ⟨h1, h2⟩ | ⟨g', cap, cur, e1, hb, hg, hle', hmax, hsz, htk⟩
    · cases h1
    · simp only [Value.slice.injEq, Option.some.injEq, Addr.mk.injEq] at e1
      obtain ⟨⟨rfl, -⟩, rfl, rfl⟩ := e1
      intro i u hi
      rw [List.getElem?_take] at hi
      split at hi
      · rename_i hir
        rw [List.getElem?_drop] at hi
        rw [cell_of_row w g _ cur e (0, 0) hg, ← Array.getElem?_toList]
        rw [← htk, List.getElem?_take] at hi
        split at hi
        · exact hi
        · cases hi
      · cases hi
  · have hx2 := ownsRow_setCell hx (k * r.n + j) (by omega) u
    refine ⟨_, by rw [List.length_set]; exact hx2, fun _ h => h.elim, fun v hv => ?_, fun i hi => ?_⟩
    · rcases List.mem_or_eq_of_mem_set hv with h | rfl
      · exact h1 v h
      · have hjl : j < ((xs.drop (k * r.n)).take r.n).length := by simp; omega
        exact r.one hz v (List.mem_iff_getElem.2 ⟨j, by simpa using hjl, by rw [List.getElem_set_self]⟩)
    · simp only [List.length_set] at hi
      have hile : i * r.n + r.n ≤ l.length * r.n := by rw [← Nat.succ_mul]; exact Nat.mul_le_mul_right _ hi
      by_cases hik : i = k
      · subst hik
        rw [List.getElem_set_self, List.drop_set, if_neg (by omega), List.take_set, show i * r.n + j - i * r.n = j by omega]
        exact r.keep hz (fun _ h => h) fun _ h => h.elim
      · rw [List.getElem_set_ne (fun e => hik e.symm)]
        have hne : ((xs.set (k * r.n + j) u).drop (i * r.n)).take r.n = (xs.drop (i * r.n)).take r.n := by
          rcases Nat.lt_or_gt_of_ne hik with hlt | hgt
          · have hle2 : i * r.n + r.n ≤ k * r.n := by rw [← Nat.succ_mul]; exact Nat.mul_le_mul_right _ hlt
            rw [List.drop_set, if_neg (by omega), List.take_set_of_le (by omega)]
          · have hle2 : k * r.n + r.n ≤ i * r.n := by rw [← Nat.succ_mul]; exact Nat.mul_le_mul_right _ hgt
            rw [List.drop_set_of_lt (by omega)]
        rw [hne]
        exact r.keep (hr i hi) (fun _ h => h) fun _ h => h.elim
end
section
variable {w w' : World} {F G : Blocks} {d : Nat} {s t : Disk.St} {av nv ov rv pv : Value} {vs : List TN}
/-- A file's number or mark written over. -/
theorem RefF.node (h : RefF w F d s av nv ov rv pv vs) {i : Nat} (hi : i < vs.length) : ∃ g n c, av = .slice (some ⟨g, 0, none⟩) n c ∧ Hid (n = vs.length) ∧ F g ∧ g ≠ d ∧
    w.cell? ⟨g, i * 3, none⟩ = some (vs[i]).2 ∧ w.cell? ⟨g, i * 3 + 1, none⟩ = some (.int .i64 (vs[i]).1.syn) ∧ w.cell? ⟨g, i * 3 + 2, none⟩ = some (.bool (vs[i]).1.bad) ∧ (∀ j, w.frozen? ⟨g, j, none⟩ = false) ∧
    (∀ (x : Nat), x ≤ 1099511627776 → RefF (w.setCell ⟨g, i * 3 + 1, none⟩ (.int .i64 x)) F d (s.setNd i fun e => { e with syn := x }) av nv ov rv pv (vs.set i ({ (vs[i]).1 with syn := x }, (vs[i]).2))) ∧
    (∀ (b : Bool), RefF (w.setCell ⟨g, i * 3 + 2, none⟩ (.bool b)) F d (s.setNd i fun e => { e with bad := b }) av nv ov rv pv (vs.set i ({ (vs[i]).1 with bad := b }, (vs[i]).2))) := by
  obtain ⟨A, n, c, rfl, hn, hnc, hcm⟩ := h.all.form
  obtain ⟨A9, c9, he9, hsl⟩ := h.all.slice
  simp only [Value.slice.injEq] at he9
  obtain ⟨rfl, -, rfl⟩ := he9
  obtain ⟨g, o, cs0, rfl, -, -, -⟩ := hsl.at_ hi
  have ho0 : o = 0 := by
    obtain ⟨xs, hx, -⟩ := h.all
    rcases hx.2 with ⟨h1, -⟩ | ⟨g', cap, cur, e1, -⟩
    · cases h1
    · simp only [Value.slice.injEq, Option.some.injEq, Addr.mk.injEq] at e1
      exact e1.1.2.1
  subst ho0
  obtain ⟨cs, hcs, hcl, hset⟩ := h.all.setCellN hi
  obtain ⟨rfl, hsy, h1c⟩ := hcs
  have hgd : g ≠ d := fun e => h.all.ne_block (g := d) h.hd (by decide) (by rw [e]; rfl)
  obtain ⟨cur, hcur⟩ := h.all.content (b := g) rfl
  have hFg := h.Fa g rfl
  have hty : ∀ {T : TypeId} {cs : Array Value} {b : Nat}, w.heap[b]? = some (.cells cs T (0, 0)) → 95 ≠ T → b ≠ g := fun hb hne e => by
    subst e
    rw [hcur] at hb
    injection hb with hb
    injection hb with _ ht
    exact hne ht
  have hall : ∀ (j : Nat) (u : Value) (t : Disk.St) (x : TN), Own Rep.nodeV 95 (w.setCell ⟨g, i * 3 + j, none⟩ u) 0 nob (.slice (some ⟨g, 0, none⟩) n c) (vs.set i x) → x.2 = (vs[i]).2 → x.1.bytes = (vs[i]).1.bytes → (vs.set i x).map (·.1) = t.all → t.room = s.room → t.on = s.on → t.now = s.now → t.old = s.old → t.row = s.row → t.plan = s.plan → t.tries = s.tries → t.done = s.done →
      RefF (w.setCell ⟨g, i * 3 + j, none⟩ u) F d t (.slice (some ⟨g, 0, none⟩) n c) nv ov rv pv (vs.set i x) := by
    intro j u t x hown e2 e3 e4 e5 e6 e7 e8 e9 e10 e11 e12
    have ho : Only (fun b => b = g) w (w.setCell ⟨g, i * 3 + j, none⟩ u) := (Only.refl (fun b => b = g) w).setCell (p := ⟨g, i * 3 + j, none⟩) (.inl rfl) u
    have hmap : (vs.set i x).map (fun x => (x.2, x.1.bytes)) = vs.map fun x => (x.2, x.1.bytes) := by
      rw [List.map_set, e2, e3]
      have e0 : (vs.map fun x => (x.2, x.1.bytes))[i]'(by simpa using hi) = ((vs[i]).2, (vs[i]).1.bytes) := by simp
      rw [← e0]
      exact List.set_getElem_self _
    refine ⟨?_, hown, e4, ?_, ?_, ?_, ?_, ?_, h.Fd, h.Fa, fun y hy b hb => ?_, h.Fr, h.Fp, fun b hb => Nat.lt_of_lt_of_le (h.lt b hb) ho.size⟩
    · rw [e5, e6, e11, e12]
      exact (ho.block d (h.lt d h.Fd) hgd.symm).trans h.hd
    · rw [hmap]
      exact h.rows.only ho fun x hx b hb e => by subst e; exact h.rows.ne hcur (by decide) x hx hb
    · rw [e7]; exact h.now.same (fun _ h => h) fun b hb => ho.block b hb.lt (hb.ne hcur (by decide))
    · rw [e8]; exact h.old.same (fun _ h => h) fun b hb => ho.block b hb.lt (hb.ne hcur (by decide))
    · rw [e9]; exact h.row.only ho fun b hb e => by subst e; exact h.row.ne_block hcur (by decide) hb
    · rw [e10]; exact h.plan.only ho fun b hb e => by subst e; exact h.plan.ne_block hcur (by decide) hb
    · rcases List.mem_or_eq_of_mem_set hy with hy | rfl
      · exact h.Fb y hy b hb
      · rw [e2] at hb; exact h.Fb _ (List.getElem_mem hi) b hb
  have hset_all : ∀ (f : Disk.Nd → Disk.Nd) (v : Value), (vs.set i (f (vs[i]).1, v)).map (·.1) = (s.setNd i f).all := by
    intro f v
    have hia : i < s.all.length := by rw [← h.len]; exact hi
    rw [List.map_set, h.is_]
    simp only [Disk.St.setNd]
    have e1 : (vs[i]).1 = s.all[i] := by
      have := h.is_
      simp only [← this, List.getElem_map]
    rw [e1]
    apply List.ext_getElem?
    intro k
    rw [List.getElem?_set, List.getElem?_modify]
    by_cases hk : i = k
    · subst hk; simp [hia]
    · simp [hk]
  refine ⟨g, n, c, rfl, hn, hFg, hgd, ?_, ?_, ?_, fun j => by simp [World.frozen?, hcur], fun x hx => ?_, fun b => ?_⟩
  · have := hcl 0 _ rfl; simpa [Rep.nodeV] using this
  · have := hcl 1 _ rfl; simpa [Rep.nodeV] using this
  · have := hcl 2 _ rfl; simpa [Rep.nodeV] using this
  · exact hall 1 _ _ _ (hset 1 (.int .i64 x) ({ (vs[i]).1 with syn := x }, (vs[i]).2) (by decide) ⟨rfl, hx, h1c⟩) rfl rfl (hset_all (fun e => { e with syn := x }) _) rfl rfl rfl rfl rfl rfl rfl rfl
  · exact hall 2 _ _ _ (hset 2 (.bool b) ({ (vs[i]).1 with bad := b }, (vs[i]).2) (by decide) ⟨rfl, hsy, h1c⟩) rfl rfl (hset_all (fun e => { e with bad := b }) _) rfl rfl rfl rfl rfl rfl rfl rfl
end
end Go.Proofs.YtncpeogkccjmcaaGreatDoor
namespace Go.Proofs.YtncpeogkccjmcaaGreatDoor
open Go.RowKit Go.ChangeShapes Go.WideShapes Go.Deep

theorem size_step (s : Disk.St) (l : Disk.Fo) {j : Nat} (hj : j < l.length) {d : Disk.Nd} (hd : s.all[(l[j]).2]? = some d) : Disk.St.size s (l.take (j + 1)) = Disk.St.size s (l.take j) + d.bytes.length := by
  unfold Disk.St.size
  rw [List.take_succ_eq_append_getElem hj, List.map_append, List.sum_append]
  simp [hd]
theorem size_take (s : Disk.St) (l : Disk.Fo) (j : Nat) : Disk.St.size s (l.take j) ≤ Disk.St.size s l := by
  have h : l = l.take j ++ l.drop j := (List.take_append_drop j l).symm
  have e : Disk.St.size s l = Disk.St.size s (l.take j) + Disk.St.size s (l.drop j) := by
    conv => lhs; rw [h]
    unfold Disk.St.size
    rw [List.map_append, List.sum_append]
  omega
section
variable {w : World} {F : Blocks} {d : Nat} {s : Disk.St}
set_option maxRecDepth 100000 in
theorem refSum_any (HA : Hid (RefFA w F d s)) (hids : ∀ i ∈ Disk.ids s.now, i < s.all.length) (hs : Hid (Disk.St.size s s.now ≤ 4611686018427387904)) :
    Calls Tryz.prog 95 #[.pointer (some ⟨d, 0, none⟩)] w fun e w' => e = .returned (.int .i64 (Disk.St.size s s.now : Nat)) ∧ ∃ q, w' = w.drewN q := by
  obtain ⟨av, nv, ov, rv, pv, vs, hR⟩ := HA.out
  obtain ⟨NA, NC, rfl, hsn⟩ := hR.now
  have hnc := hsn.len
  have hcm := hsn.max
  have HRX := Lib.hid hR
  have HSN := Lib.hid hsn
  have HIDS := Lib.hid hids
  obtain ⟨nn, hnn⟩ : ∃ x, x = s.now.length := ⟨_, rfl⟩
  have c2 := hR.cell 2 _ rfl
  have c3 := hR.cell 3 _ rfl
  rw [← hnn] at c3 hnc
  have HNN := Lib.hid hnn
  clear hR hsn hids hnn
  go_enter Tryz.func95, Tryz.ntmps95
  go_wp2_with fail
  go_loopg [3, 4] nn (fun q s3 s4 wr => ∃ (j : Nat), q = nn - j ∧ j ≤ nn ∧ s4 = .int .i64 j ∧ s3 = .int .i64 (Disk.St.size s (s.now.take j) : Nat) ∧ Hid (∃ q, wr = w.drewN q))
  case atStart => exact ⟨0, rfl, by omega, rfl, rfl, Lib.hid ⟨0, rfl⟩⟩
  case round =>
    obtain ⟨j, rfl, hj, rfl, rfl, HW⟩ := hrel
    obtain ⟨q9, hq9⟩ := HW.out
    have hbw : Below w.heap.size w wr := by rw [hq9]; exact below_dr _ _
    have HRY := Lib.hid (HRX.out.far hbw)
    have HSY : Hid (SliceAt Rep.ent wr (EntIn w F) NA NC s.now) := Lib.hid (by rw [hq9]; exact HSN.out.drewN q9)
    have c2 := HRY.out.cell 2 _ rfl
    have c3 := HRY.out.cell 3 _ rfl
    rw [← HNN.out] at c3
    clear hbw hq9
    obtain ⟨a, ha⟩ : ∃ a, a = Disk.St.size s (s.now.take j) := ⟨_, rfl⟩
    have HA2 := Lib.hid ha
    rw [← ha]
    have hab : a ≤ 4611686018427387904 := by rw [ha]; have := size_take s s.now j; have := hs.out; omega
    by_cases hjn : j < nn
    · have hjl : j < s.now.length := by rw [← HNN.out]; exact hjn
      obtain ⟨g, o, rfl, hg, -, k1, -, hk2⟩ := HSY.out.ent hjl
      obtain ⟨i, hi⟩ : ∃ i, i = (s.now[j]).2 := ⟨_, rfl⟩
      have hil : i < s.all.length := by rw [hi]; exact HIDS.out _ (List.mem_map.2 ⟨_, List.getElem_mem hjl, rfl⟩)
      have hiv : i < vs.length := by rw [HRY.out.len]; exact hil
      obtain ⟨gn, n, c, rfl, hn, -, -, n0, -, -, -, -, -⟩ := HRY.out.node hiv
      have hform := HRY.out.rows.own ((vs[i]).2, (vs[i]).1.bytes) (List.mem_map.2 ⟨vs[i], List.getElem_mem hiv, rfl⟩)
      obtain ⟨BA, bn, BC, hbv, hbl, hbc, hbm⟩ := hform.form
      simp only at hbv
      rw [hbv] at n0
      have hall : s.all[i]? = some (vs[i]).1 := by
        have := HRY.out.is_
        rw [← this, List.getElem?_map, List.getElem?_eq_getElem hiv]
        rfl
      have hst := size_step s s.now hjl (d := (vs[i]).1) (by rw [← hi]; exact hall)
      rw [← ha] at hst
      have hbl2 : bn = (vs[i]).1.bytes.length := hbl.out
      rw [← hi] at k1 hk2
      rw [← hbl2] at hst
      have hsb : a + bn ≤ 4611686018427387904 := by rw [← hst]; have := size_take s s.now (j + 1); have := hs.out; omega
      have HST := Lib.hid hst
      have hinl : i < n := by rw [hn.out]; exact hiv
      have hini : (i : Int) < (n : Int) := by omega
      clear hi hall hst hbl hbl2 hform hbv hn hil hiv hjl ha hg
      go_wp2_with fail
      go_quiet (fail)
      rw [show ((a : Int) + (bn : Int)) = ((Disk.St.size s (s.now.take (j + 1)) : Nat) : Int) by rw [HST.out]; omega]
      clear HRX HRY HSN n0 c2 c3 k1 HSY HIDS
      go_wp2_with fail
      go_roundg (nn - (j + 1))
      case measure => omega
      case rel => exact ⟨j + 1, rfl, by omega, by congr 1, rfl, Lib.hid (by obtain ⟨q, hq⟩ := HW.out; rw [hq, World.drewN_drewN]; exact ⟨_, rfl⟩)⟩
    · have hjn2 : j = nn := by omega
      subst hjn2
      have e : s.now.take j = s.now := List.take_of_length_le (by rw [HNN.out]; omega)
      have hae : a = Disk.St.size s s.now := by rw [HA2.out, e]
      go_wp2_with fail
      go_ret
      exact ⟨by rw [← hae]; rfl, HW.out⟩
end
end Go.Proofs.YtncpeogkccjmcaaGreatDoor
namespace Go.Proofs.YtncpeogkccjmcaaGreatDoor
open Go.RowKit Go.ChangeShapes Go.WideShapes Go.Deep

theorem str_two (w : World) (x y : ByteArray) (e : TypeId) (hx : x.size ≤ maxLen) (hy : y.size ≤ maxLen) : SliceAt Rep.str (w.alloc (.cells #[.string x, .string y] e)) (fun b => b = w.heap.size ∨ nob b) (some ⟨w.heap.size, 0, none⟩) 2 [x, y] :=
  SliceAt.newRow Rep.str w e #[.string x, .string y] [x, y] nob 2 2 rfl (Nat.le_refl _) (by simp [maxLen]) (fun i hi => by
    match i, hi with
    | 0, _ => exact ⟨rfl, hx⟩
    | 1, _ => exact ⟨rfl, hy⟩) fun _ h => h.elim
section
variable {w0 w w' : World} {F G : Blocks} {d : Nat} {s t : Disk.St}
theorem grow_base2 {F : Blocks} {w w1 w2 : World} (h : w.heap.size ≤ w1.heap.size) (h2 : w1.heap.size ≤ w2.heap.size) : ∀ b, grow F w1 w2 b → grow F w w2 b := fun b hb => hb.elim .inl fun hb => .inr ⟨Nat.le_trans h hb.1, hb.2⟩
/-- One more change of the folder and one more done. -/
theorem Rk.alloc {o : Obj} (h : Rk (w0.alloc o) w F d s) (hF : ∀ b, F b → b < w0.heap.size) : Rk w0 w F d s := by
  have hs := h.only.size
  simp only [World.size_alloc] at hs
  refine ⟨h.at_.up (fun b hb => hb.elim .inl fun hb => .inr ⟨?_, hb.2⟩) (grow_lt hF (by omega)), ((Only.refl F w0).alloc o).trans h.only fun _ hx => .inl hx⟩
  have := hb.1
  simp only [World.size_alloc] at this
  omega
set_option maxRecDepth 100000 in
set_option maxHeartbeats 4000000 in
theorem refRemove_any (nm : ByteArray) (HA : Hid (RefFA w F d s)) (hnm : Hid (nm.size ≤ maxLen)) (ht : 0 ≤ s.tries ∧ s.tries ≤ 4611686018427387904) (hdn : 0 ≤ s.done ∧ s.done ≤ 4611686018427387904) (hnl : s.now.length ≤ 2147483647) (hrl : s.row.length ≤ 1099511627776) (hpl : PlanE s) :
    Calls Tryz.prog 98 #[.pointer (some ⟨d, 0, none⟩), .string nm] w (RefCall w F d (s.remove nm.data.toList)) := by
  have HLT := Lib.hid HA.out.lt
  obtain ⟨W, hW⟩ : ∃ W, W = w.alloc (.cells #[.string nm] 9) := ⟨_, rfl⟩
  obtain ⟨wb, hwb⟩ : ∃ b, b = w.heap.size := ⟨_, rfl⟩
  have hbW : Below w.heap.size w W := by rw [hW]; exact Below.alloc (Below.refl _ _) (Nat.le_refl _) _
  have HAW : Hid (RefFA W F d s) := Lib.hid (HA.out.far hbW)
  have hrow : SliceAt Rep.str W (fun b => b = w.heap.size ∨ nob b) (some ⟨wb, 0, none⟩) 1 [nm] := by rw [hW, hwb]; exact str_one w nm 9 hnm.out
  have hsz : W.heap.size = w.heap.size + 1 := by rw [hW]; simp
  have HTRY := Lib.hid (refTry_any (w := W) [nm] nm (some ⟨wb, 0, none⟩) 1 1 _ HAW (Lib.hid rfl) (Lib.hid hrow) (Lib.hid fun b hb => hb.elim (fun h => by rw [h, hsz]; omega) fun h => h.elim) ht)
  have hkp := tryS_kept s [nm.data.toList] nm.data.toList
  have K0 : Hid (∀ w1 t, Rk W w1 F d t → Rk w w1 F d t) := Lib.hid fun w1 t h => by rw [hW] at h; exact h.alloc HLT.out
  go_enter Tryz.func98, Tryz.ntmps98
  go_wp2_with fail
  rw [← hwb, ← hW]
  clear hW hbW hrow hsz hwb
  refine HTRY.out.mono ?_
  rintro e w1 ⟨rfl, h1, h2⟩
  have K1 : Hid (Rk w w1 F d (s.tryS [nm.data.toList] nm.data.toList).1) := Lib.hid (K0.out _ _ ⟨h1, h2⟩)
  rw [show s.tryS (List.map (fun x : ByteArray => x.data.toList) [nm]) nm.data.toList = s.tryS [nm.data.toList] nm.data.toList from rfl]
  obtain ⟨r, hr⟩ : ∃ r, s.tryS [nm.data.toList] nm.data.toList = r := ⟨_, rfl⟩
  have HRR := Lib.hid hr
  rw [hr] at K1 hkp ⊢
  obtain ⟨t, ev⟩ := r
  simp only at K1 hkp ⊢
  obtain ⟨k1, k2, k3, k4, k5⟩ := hkp
  clear h1 h2 hr HTRY K0
  have hcase : ev = 0 ∨ ev = 23 ∨ ev = 22 ∨ (ev ≠ 0 ∧ ev ≠ 23 ∧ ev ≠ 22) := by omega
  have hstop : ev ≠ 0 → ev ≠ 23 → ev ≠ 22 → s.remove nm.data.toList = (t, ev) := fun e0 e1 e2 => by
    have h := HRR.out
    unfold Disk.St.tryS at h
    unfold Disk.St.remove
    split at h
    · rename_i h3; rw [if_pos h3]; exact h
    · rename_i h3
      rw [if_neg h3]
      split at h
      · rename_i h4; rw [if_pos h4]; exact h
      · rename_i h4
        rw [if_neg h4]
        have h5 := tried_e hpl
        rw [h] at h5 ⊢
        simp only at h5
        rw [if_pos (by omega)]
  have hgo : ev = 0 ∨ ev = 23 ∨ ev = 22 → nm.data.toList ≠ [] ∧ s.remove nm.data.toList = ((t.changes ⟨nm.data.toList, [], 0⟩).more, 0) := fun hc => by
    have h := HRR.out
    unfold Disk.St.tryS at h
    unfold Disk.St.remove
    have hon : s.looked [] [nm.data.toList] ≠ 0 → s.looked [] [nm.data.toList] = 24 ∨ s.looked [] [nm.data.toList] = 20 ∨ s.looked [] [nm.data.toList] = 21 := fun h0 => by
      unfold Disk.St.looked at h0 ⊢
      split
      · exact .inl rfl
      · split
        · exact .inr (.inl rfl)
        · split
          · exact .inr (.inr rfl)
          · exact absurd (by simp_all) h0
    have hon2 : s.looked nm.data.toList [] ≠ 0 → s.looked nm.data.toList [] = 24 ∨ s.looked nm.data.toList [] = 20 ∨ s.looked nm.data.toList [] = 21 := fun h0 => by
      unfold Disk.St.looked at h0 ⊢
      split
      · exact .inl rfl
      · split
        · exact .inr (.inl rfl)
        · split
          · exact .inr (.inr rfl)
          · exact absurd (by simp_all) h0
    split at h
    · rename_i h3
      have := hon h3
      rw [(Prod.mk.inj h).2] at this
      omega
    · rename_i h3
      split at h
      · rename_i h4
        have := hon2 h4
        rw [(Prod.mk.inj h).2] at this
        omega
      · rename_i h4
        rw [if_neg h3, if_neg h4, h, if_neg (by simp only; omega)]
        refine ⟨?_, rfl⟩
        have := Disk.looked_name (s := s) (names := [nm.data.toList]) (by simpa using h3) nm.data.toList (by simp)
        exact Disk.isName_ne this
  have Hgo := Lib.hid hgo
  have Hstop := Lib.hid hstop
  clear hgo hstop HRR
  rcases hcase with rfl | rfl | rfl | ⟨e0, e1, e2⟩
  case inr.inr.inr =>
    have b0 : (ev != 0) = true := bne_iff_ne.2 e0
    have b1 : (ev != 23) = true := bne_iff_ne.2 e1
    have b2 : (ev != 22) = true := bne_iff_ne.2 e2
    have HS := Lib.hid (Hstop.out e0 e1 e2)
    clear e0 e1 e2
    go_wp2_with fail
    go_ret
    rw [HS.out]
    exact K1.out.done rfl
  all_goals
    obtain ⟨hne, hrm⟩ := Hgo.out (by omega)
    have HRM := Lib.hid hrm
    have HCH := Lib.hid (refChanges_any (w := w1) nm ⟨#[]⟩ 0 (Lib.hid K1.out.at_) hnm (Lib.hid (Nat.zero_le _)) (by omega) (Lib.hid (.inl hne)) (by rw [k4]; exact hnl) (by rw [k1]; exact hrl))
    clear hrm hne Hgo Hstop
    go_wp2_with fail
    refine HCH.out.mono ?_
    rintro e w2 ⟨rfl, h1, h2⟩
    have K2 := Lib.hid (K1.out.next HLT.out h1 h2)
    obtain ⟨t2, ht2⟩ : ∃ x, x = t.changes (chgOf nm ⟨#[]⟩ 0) := ⟨_, rfl⟩
    rw [← ht2] at K2
    have HT2 := Lib.hid ht2
    clear h1 h2 HCH
    have hdt : t2.done = s.done := by rw [ht2]; exact k2
    obtain ⟨av, nv, ov, rv, pv, vs, hR⟩ := K2.out.at_
    have c8 := hR.cell 8 _ rfl
    have f8 := hR.frozen 8
    rw [← hdt] at hdn
    obtain ⟨dn, hdn2⟩ : ∃ x, x = t2.done := ⟨_, rfl⟩
    rw [← hdn2] at c8 hdn
    obtain ⟨hd1, hd2⟩ := hdn
    have K4 := Lib.hid (K2.out.set HLT.out (hR.setN (t := t2.more) (k := 8) (u := .int .i64 (dn + 1)) (by rw [hdn2]; rfl) rfl rfl rfl rfl rfl))
    clear hR hdt hdn2 ht2
    go_wp2_with fail
    go_ret
    rw [HRM.out]
    have h := K4.out.done (e := .returned (.int .i64 0)) rfl
    rw [HT2.out] at h
    exact h
set_option maxRecDepth 100000 in
set_option maxHeartbeats 4000000 in
theorem refRename_any (nm nt : ByteArray) (HA : Hid (RefFA w F d s)) (hnm : Hid (nm.size ≤ maxLen)) (hnt' : Hid (nt.size ≤ maxLen)) (ht : 0 ≤ s.tries ∧ s.tries ≤ 4611686018427387904) (hdn : 0 ≤ s.done ∧ s.done ≤ 4611686018427387904) (hnl : s.now.length ≤ 2147483647) (hrl : s.row.length ≤ 1099511627776) (hids : ∀ i ∈ Disk.ids s.now, i < 1099511627776) :
    Calls Tryz.prog 48 #[.pointer (some ⟨d, 0, none⟩), .string nm, .string nt] w (RefCall w F d (s.rename nm.data.toList nt.data.toList)) := by
  have HLT := Lib.hid HA.out.lt
  obtain ⟨W, hW⟩ : ∃ W, W = w.alloc (.cells #[.string nm, .string nt] 9) := ⟨_, rfl⟩
  obtain ⟨wb, hwb⟩ : ∃ b, b = w.heap.size := ⟨_, rfl⟩
  have hbW : Below w.heap.size w W := by rw [hW]; exact Below.alloc (Below.refl _ _) (Nat.le_refl _) _
  have HAW : Hid (RefFA W F d s) := Lib.hid (HA.out.far hbW)
  have hrow : SliceAt Rep.str W (fun b => b = w.heap.size ∨ nob b) (some ⟨wb, 0, none⟩) 2 [nm, nt] := by rw [hW, hwb]; exact str_two w nm nt 9 hnm.out hnt'.out
  have hsz : W.heap.size = w.heap.size + 1 := by rw [hW]; simp
  have HTRY := Lib.hid (refTry_any (w := W) [nm, nt] nm (some ⟨wb, 0, none⟩) 2 2 _ HAW (Lib.hid rfl) (Lib.hid hrow) (Lib.hid fun b hb => hb.elim (fun h => by rw [h, hsz]; omega) fun h => h.elim) ht)
  have hkp := tryS_kept s [nm.data.toList, nt.data.toList] nm.data.toList
  have K0 : Hid (∀ w1 t, Rk W w1 F d t → Rk w w1 F d t) := Lib.hid fun w1 t h => by rw [hW] at h; exact h.alloc HLT.out
  go_enter Tryz.func48, Tryz.ntmps48
  go_wp2_with fail
  rw [← hwb, ← hW]
  clear hW hbW hrow hsz hwb
  refine HTRY.out.mono ?_
  rintro e w1 ⟨rfl, h1, h2⟩
  have K1 : Hid (Rk w w1 F d (s.tryS [nm.data.toList, nt.data.toList] nm.data.toList).1) := Lib.hid (K0.out _ _ ⟨h1, h2⟩)
  rw [show s.tryS (List.map (fun x : ByteArray => x.data.toList) [nm, nt]) nm.data.toList = s.tryS [nm.data.toList, nt.data.toList] nm.data.toList from rfl]
  obtain ⟨r, hr⟩ : ∃ r, s.tryS [nm.data.toList, nt.data.toList] nm.data.toList = r := ⟨_, rfl⟩
  have HRR := Lib.hid hr
  rw [hr] at K1 hkp ⊢
  obtain ⟨t, ev⟩ := r
  simp only at K1 hkp ⊢
  obtain ⟨k1, k2, k3, k4, k5⟩ := hkp
  clear h1 h2 hr HTRY K0
  have HC : Hid (s.rename nm.data.toList nt.data.toList = if ev ≠ 0 then (t, ev) else ((if nm.data.toList = nt.data.toList then t else t.changes ⟨nm.data.toList, nt.data.toList, (Disk.find t.now nm.data.toList).getD 0⟩).more, 0)) := Lib.hid (by
    have h := call_try s [nm.data.toList, nt.data.toList] nm.data.toList fun s => ((if nm.data.toList = nt.data.toList then s else s.changes ⟨nm.data.toList, nt.data.toList, (Disk.find s.now nm.data.toList).getD 0⟩).more, 0)
    rw [HRR.out] at h
    exact h)
  by_cases hev : ev = 0
  case neg =>
    have hb0 : (ev != 0) = true := bne_iff_ne.2 hev
    have HC2 := Lib.hid (HC.out.trans (if_pos hev))
    clear hev
    go_wp2_with fail
    go_ret
    rw [HC2.out]
    exact K1.out.done rfl
  subst hev
  have HC2 := Lib.hid (HC.out.trans (if_neg (by simp)))
  have hfound : nm.data.toList ≠ [] ∧ ∃ i, Disk.find t.now nm.data.toList = some i := by
    have h := HRR.out
    unfold Disk.St.tryS at h
    split at h
    · rename_i h3; exact absurd (Prod.mk.inj h).2 h3
    · rename_i h3
      split at h
      · rename_i h4; exact absurd (Prod.mk.inj h).2 h4
      · rename_i h4
        have hn := Disk.isName_ne (Disk.looked_name (s := s) (names := [nm.data.toList, nt.data.toList]) (by simpa using h3) nm.data.toList (by simp))
        rw [k4]
        exact ⟨hn, Disk.looked_file hn (by simpa using h4)⟩
  obtain ⟨hne, i, hi⟩ := hfound
  have hib : i ≤ 1125899906842624 := by
    have h1 := hids i (List.mem_map.2 ⟨(nm.data.toList, i), Disk.mem_of_find (by rw [← k4]; exact hi), rfl⟩)
    omega
  have HFI : Hid (findI t.now nm.data.toList = i) := Lib.hid (by unfold findI; rw [hi])
  have HI : Hid ((Disk.find t.now nm.data.toList).getD 0 = i) := Lib.hid (by rw [hi]; rfl)
  by_cases hnt : nm.data.toList = nt.data.toList
  · have hbe := bytes_eq (a := nm) (b := nt) hnt
    have K2 : Hid (Rk w w1 F d t) := K1
    obtain ⟨t2, ht2⟩ : ∃ x, x = t := ⟨_, rfl⟩
    rw [← ht2] at K2
    have HR : Hid (s.rename nm.data.toList nt.data.toList = (t2.more, 0)) := Lib.hid (by rw [HC2.out, if_pos hnt, ht2])
    clear hne hi hnt
    have hdt : t2.done = s.done := by rw [ht2]; exact k2
    obtain ⟨av, nv, ov, rv, pv, vs, hR⟩ := K2.out.at_
    have c8 := hR.cell 8 _ rfl
    have f8 := hR.frozen 8
    rw [← hdt] at hdn
    obtain ⟨dn, hdn2⟩ : ∃ x, x = t2.done := ⟨_, rfl⟩
    rw [← hdn2] at c8 hdn
    obtain ⟨hd1, hd2⟩ := hdn
    have K4 := Lib.hid (K2.out.set HLT.out (hR.setN (t := t2.more) (k := 8) (u := .int .i64 (dn + 1)) (by rw [hdn2]; rfl) rfl rfl rfl rfl rfl))
    clear hR hdt hdn2 ht2
    go_wp2_with fail
    go_ret
    rw [HR.out]
    exact K4.out.done rfl
  · have hbe := bytes_ne (a := nm) (b := nt) hnt
    have HCH := Lib.hid (refChanges_any (w := w1) nm nt i (Lib.hid K1.out.at_) hnm hnt' hib (Lib.hid (.inl hne)) (by rw [k4]; exact hnl) (by rw [k1]; exact hrl))
    obtain ⟨av0, nv0, ov0, rv0, pv0, vs0, hR0⟩ := K1.out.at_
    obtain ⟨NA, NC, rfl, hsn⟩ := hR0.now
    obtain ⟨nn, hnn⟩ : ∃ x, x = t.now.length := ⟨_, rfl⟩
    have c3 := hR0.cell 3 _ rfl
    rw [← hnn] at c3
    have HFD := Lib.hid (refFind_any (w := w1) t.now nm NA nn NC _ (Lib.hid hnn) (Lib.hid hsn))
    rw [HFI.out] at HFD
    have HR : Hid (s.rename nm.data.toList nt.data.toList = ((t.changes ⟨nm.data.toList, nt.data.toList, i⟩).more, 0)) := Lib.hid (by rw [HC2.out, if_neg hnt, HI.out])
    clear hne hi hnt hR0 hsn hnn
    go_wp2_with fail
    refine HFD.out.mono ?_
    rintro e w9 ⟨rfl, rfl⟩
    go_wp2_with fail
    refine HCH.out.mono ?_
    rintro e w2 ⟨rfl, h1, h2⟩
    have K2 := Lib.hid (K1.out.next HLT.out h1 h2)
    obtain ⟨t2, ht2⟩ : ∃ x, x = t.changes (chgOf nm nt i) := ⟨_, rfl⟩
    rw [← ht2] at K2
    have HT2 := Lib.hid ht2
    clear h1 h2 HCH c3
    have hdt : t2.done = s.done := by rw [ht2]; exact k2
    obtain ⟨av, nv, ov, rv, pv, vs, hR⟩ := K2.out.at_
    have c8 := hR.cell 8 _ rfl
    have f8 := hR.frozen 8
    rw [← hdt] at hdn
    obtain ⟨dn, hdn2⟩ : ∃ x, x = t2.done := ⟨_, rfl⟩
    rw [← hdn2] at c8 hdn
    obtain ⟨hd1, hd2⟩ := hdn
    have K4 := Lib.hid (K2.out.set HLT.out (hR.setN (t := t2.more) (k := 8) (u := .int .i64 (dn + 1)) (by rw [hdn2]; rfl) rfl rfl rfl rfl rfl))
    clear hR hdt hdn2 ht2
    go_wp2_with fail
    go_ret
    rw [HR.out]
    have h := K4.out.done (e := .returned (.int .i64 0)) rfl
    rw [HT2.out] at h
    exact h
end
end Go.Proofs.YtncpeogkccjmcaaGreatDoor
namespace Go.Proofs.YtncpeogkccjmcaaGreatDoor
open Go.RowKit Go.ChangeShapes Go.WideShapes Go.Deep

section
variable {w0 w w1 w2 : World} {F G : Blocks} {d : Nat} {s t : Disk.St}
set_option maxRecDepth 100000 in
set_option maxHeartbeats 4000000 in
theorem refSync_any (nm : ByteArray) (HA : Hid (RefFA w F d s)) (hnm : Hid (nm.size ≤ maxLen)) (ht : 0 ≤ s.tries ∧ s.tries ≤ 4611686018427387904) (hdn : 0 ≤ s.done ∧ s.done ≤ 4611686018427387904) (hnl : s.now.length ≤ 2147483647) (hrl : s.row.length ≤ 1099511627776) (hids : ∀ i ∈ Disk.ids s.now, i < s.all.length) (hbig : ∀ d ∈ s.all, d.bytes.length ≤ 16777216) :
    Calls Tryz.prog 47 #[.pointer (some ⟨d, 0, none⟩), .string nm] w (RefCall w F d (s.sync nm.data.toList)) := by
  have HLT := Lib.hid HA.out.lt
  obtain ⟨W, hW⟩ : ∃ W, W = w.alloc (.cells #[.string nm] 9) := ⟨_, rfl⟩
  obtain ⟨wb, hwb⟩ : ∃ b, b = w.heap.size := ⟨_, rfl⟩
  have hbW : Below w.heap.size w W := by rw [hW]; exact Below.alloc (Below.refl _ _) (Nat.le_refl _) _
  have HAW : Hid (RefFA W F d s) := Lib.hid (HA.out.far hbW)
  have hrow : SliceAt Rep.str W (fun b => b = w.heap.size ∨ nob b) (some ⟨wb, 0, none⟩) 1 [nm] := by rw [hW, hwb]; exact str_one w nm 9 hnm.out
  have hsz : W.heap.size = w.heap.size + 1 := by rw [hW]; simp
  have HTRY := Lib.hid (refTry_any (w := W) [nm] nm (some ⟨wb, 0, none⟩) 1 1 _ HAW (Lib.hid rfl) (Lib.hid hrow) (Lib.hid fun b hb => hb.elim (fun h => by rw [h, hsz]; omega) fun h => h.elim) ht)
  have hkp := tryS_kept s [nm.data.toList] nm.data.toList
  have K0 : Hid (∀ w1 t, Rk W w1 F d t → Rk w w1 F d t) := Lib.hid fun w1 t h => by rw [hW] at h; exact h.alloc HLT.out
  go_enter Tryz.func47, Tryz.ntmps47
  go_wp2_with fail
  rw [← hwb, ← hW]
  clear hW hbW hrow hsz hwb
  refine HTRY.out.mono ?_
  rintro e w1 ⟨rfl, h1, h2⟩
  have K1 : Hid (Rk w w1 F d (s.tryS [nm.data.toList] nm.data.toList).1) := Lib.hid (K0.out _ _ ⟨h1, h2⟩)
  rw [show s.tryS (List.map (fun x : ByteArray => x.data.toList) [nm]) nm.data.toList = s.tryS [nm.data.toList] nm.data.toList from rfl]
  obtain ⟨r, hr⟩ : ∃ r, s.tryS [nm.data.toList] nm.data.toList = r := ⟨_, rfl⟩
  have HRR := Lib.hid hr
  rw [hr] at K1 hkp ⊢
  obtain ⟨t, ev⟩ := r
  simp only at K1 hkp ⊢
  obtain ⟨k1, k2, k3, k4, k5⟩ := hkp
  clear h1 h2 hr HTRY K0
  have HC : Hid (s.sync nm.data.toList = if ev ≠ 0 then (t, ev) else ((t.setNd ((Disk.find t.now nm.data.toList).getD 0) fun d => { d with syn := d.bytes.length }).more, 0)) := Lib.hid (by
    have h := call_try s [nm.data.toList] nm.data.toList fun s => ((s.setNd ((Disk.find s.now nm.data.toList).getD 0) fun d => { d with syn := d.bytes.length }).more, 0)
    rw [HRR.out] at h
    exact h)
  by_cases hev : ev = 0
  case neg =>
    have hb0 : (ev != 0) = true := bne_iff_ne.2 hev
    have HC2 := Lib.hid (HC.out.trans (if_pos hev))
    clear hev
    go_wp2_with fail
    go_ret
    rw [HC2.out]
    exact K1.out.done rfl
  subst hev
  have HC2 := Lib.hid (HC.out.trans (if_neg (by simp)))
  have hfound : nm.data.toList ≠ [] ∧ ∃ i, Disk.find t.now nm.data.toList = some i := by
    have h := HRR.out
    unfold Disk.St.tryS at h
    split at h
    · rename_i h3; exact absurd (Prod.mk.inj h).2 h3
    · rename_i h3
      split at h
      · rename_i h4; exact absurd (Prod.mk.inj h).2 h4
      · rename_i h4
        have hn := Disk.isName_ne (Disk.looked_name (s := s) (names := [nm.data.toList]) (by simpa using h3) nm.data.toList (by simp))
        rw [k4]
        exact ⟨hn, Disk.looked_file hn (by simpa using h4)⟩
  obtain ⟨hne, i, hi⟩ := hfound
  have hil : i < t.all.length := by rw [k3]; exact hids i (List.mem_map.2 ⟨(nm.data.toList, i), Disk.mem_of_find (by rw [← k4]; exact hi), rfl⟩)
  have HFI : Hid (findI t.now nm.data.toList = i) := Lib.hid (by unfold findI; rw [hi])
  obtain ⟨av, nv, ov, rv, pv, vs, hR⟩ := K1.out.at_
  have hiv : i < vs.length := by rw [hR.len]; exact hil
  obtain ⟨g, n, c, rfl, hn, hFg, hgd, n0, n1, n2, nf, hsyn, -⟩ := hR.node hiv
  obtain ⟨NA, NC, rfl, hsn⟩ := hR.now
  obtain ⟨nn, hnn⟩ : ∃ x, x = t.now.length := ⟨_, rfl⟩
  have c2 := hR.cell 2 _ rfl
  have c3 := hR.cell 3 _ rfl
  rw [← hnn] at c3
  have HFD : Hid (∀ m, Calls Tryz.prog 93 #[.slice NA nn NC, .string nm] (w1.drewN m) fun e w' => e = .returned (.int .i64 (i : Nat)) ∧ ∃ q, w' = w1.drewN q) := Lib.hid fun m => by
    refine (refFind_any (w := w1.drewN m) t.now nm NA nn NC _ (Lib.hid hnn) (Lib.hid (hsn.drewN m))).mono ?_
    rintro e w' ⟨rfl, rfl⟩
    exact ⟨by rw [HFI.out], m, rfl⟩
  have hmem : (vs[i]).1 ∈ t.all := by rw [← hR.is_]; exact List.mem_map.2 ⟨vs[i], List.getElem_mem hiv, rfl⟩
  obtain ⟨bn, hbn⟩ : ∃ x, x = (vs[i]).1.bytes.length := ⟨_, rfl⟩
  have hbnb : bn ≤ 1099511627776 := by rw [hbn]; have := hbig (vs[i]).1 (by rw [← k3]; exact hmem); omega
  have hform := hR.rows.own ((vs[i]).2, (vs[i]).1.bytes) (List.mem_map.2 ⟨vs[i], List.getElem_mem hiv, rfl⟩)
  obtain ⟨BA, bn2, BC, hbv, hbl, hbc, hbm⟩ := hform.form
  simp only at hbv
  have hb2 : bn2 = bn := by rw [hbl.out, hbn]
  rw [hbv, hb2] at n0
  have hbc2 : bn ≤ BC := by rw [← hb2]; exact hbc
  have HNS := Lib.hid (hsyn bn hbnb)
  have HRX := Lib.hid hR
  have hinl : i < n := by rw [hn.out]; exact hiv
  have hini : (i : Int) < (n : Int) := by omega
  have hst : t.setNd i (fun e => { e with syn := bn }) = t.setNd ((Disk.find t.now nm.data.toList).getD 0) fun d => { d with syn := d.bytes.length } := by
    rw [hi]
    unfold Disk.St.setNd
    congr 1
    apply List.ext_getElem?
    intro k
    rw [List.getElem?_modify, List.getElem?_modify]
    simp only [Option.getD_some]
    split
    · rename_i hk
      subst hk
      have e1 : t.all[i]? = some (vs[i]).1 := by
        have := hR.is_
        rw [← this, List.getElem?_map, List.getElem?_eq_getElem hiv]
        rfl
      rw [e1]
      simp [hbn]
    · rfl
  have HST := Lib.hid hst
  have NF := Lib.hid nf
  have HGD := Lib.hid hgd
  have HFG := Lib.hid hFg
  clear hR hne hi hil hn hgd n1 n2 nf hsyn hsn hnn hmem hbn hform hbv hbl hbc hb2 hst hFg HFI
  go_wp2_with fail
  go_quiet ((go_at_call 93; exact HFD.out _))
  generalize hW : World.drewN _ _ = w2
  have hb12 : Below w1.heap.size w1 w2 := by rw [← hW]; exact below_dr _ _
  have hR2 : RefF w2 (grow F w w1) d t (.slice (some ⟨g, 0, none⟩) n c) (.slice NA t.now.length NC) ov rv pv vs := HRX.out.far hb12
  have hgr : grow F w w1 = grow F w w2 := by rw [← hW]; rfl
  rw [hgr] at hR2
  have K2a := Lib.hid (K1.out.far HLT.out hb12)
  obtain ⟨g', n', c', he, -, hFg', -, -, -, -, -, hsyn', -⟩ := hR2.node hiv
  simp only [Value.slice.injEq, Option.some.injEq, Addr.mk.injEq] at he
  obtain ⟨⟨rfl, -⟩, rfl, rfl⟩ := he
  have hglt : g < w1.heap.size := World.block_lt_of_cell? w1 _ n0
  have m0 := (hb12.cell (p := ⟨g, i * 3, none⟩) hglt).trans n0
  have m1 : w2.frozen? ⟨g, i * 3 + 1, none⟩ = false := by rw [← hW]; exact NF.out _
  have hR3 := hsyn' bn hbnb
  have K2b : Hid (Rk w (w2.setCell ⟨g, i * 3 + 1, none⟩ (.int .i64 bn)) F d (t.setNd i fun e => { e with syn := bn })) := Lib.hid ⟨by rw [grow_set]; exact hR3.at_, K2a.out.only.setCell (p := ⟨g, i * 3 + 1, none⟩) (hFg'.elim .inl fun h => .inr h.1) _⟩
  have m2 : (w2.cell? ⟨g, i * 3 + 1, none⟩).isSome = true := by
    obtain ⟨g9, n9, c9, he9, -, -, -, -, q1, -⟩ := hR2.node hiv
    simp only [Value.slice.injEq, Option.some.injEq, Addr.mk.injEq] at he9
    obtain ⟨⟨rfl, -⟩, -, -⟩ := he9
    rw [q1]; rfl
  obtain ⟨m3v, m3⟩ := Option.isSome_iff_exists.1 m2
  clear hW hb12 hR2 hgr hsyn' hR3 hFg' m2 n0 c2 c3 hglt
  go_upto_region 6 with fail
  obtain ⟨w3, hw3⟩ : ∃ W, W = w2.setCell ⟨g, i * 3 + 1, none⟩ (.int .i64 bn) := ⟨_, rfl⟩
  rw [← hw3] at K2b
  rw [← hw3]
  have K2 := K2b
  rw [HST.out] at K2
  obtain ⟨t2, ht2⟩ : ∃ x, x = t.setNd ((Disk.find t.now nm.data.toList).getD 0) fun d => { d with syn := d.bytes.length } := ⟨_, rfl⟩
  rw [← ht2] at K2
  have HT2 := Lib.hid ht2
  clear hw3 K2b m0 m1 m3
  have hdt : t2.done = s.done := by rw [ht2]; exact k2
  obtain ⟨av, nv, ov, rv, pv, vs, hR⟩ := K2.out.at_
  have c8 := hR.cell 8 _ rfl
  have f8 := hR.frozen 8
  rw [← hdt] at hdn
  obtain ⟨dn, hdn2⟩ : ∃ x, x = t2.done := ⟨_, rfl⟩
  rw [← hdn2] at c8 hdn
  obtain ⟨hd1, hd2⟩ := hdn
  have K4 := Lib.hid (K2.out.set HLT.out (hR.setN (t := t2.more) (k := 8) (u := .int .i64 (dn + 1)) (by rw [hdn2]; rfl) rfl rfl rfl rfl rfl))
  clear hR hdt hdn2 ht2
  go_wp2_with fail
  go_ret
  rw [HC2.out]
  have h := K4.out.done (e := .returned (.int .i64 0)) rfl
  rw [HT2.out] at h
  exact h
end
end Go.Proofs.YtncpeogkccjmcaaGreatDoor
namespace Go.Proofs.YtncpeogkccjmcaaGreatDoor
open Go.RowKit Go.ChangeShapes Go.WideShapes Go.Deep

section
variable {wa w3 : World} {base : Nat} {l : List (Value × List UInt8)}
theorem RowsV.two (h : RowsV wa base l) {i j : Nat} (hi : i < l.length) (hj : j < l.length) (hij : i ≠ j) : ∀ b, (l[i]).1.ownBlock = some b → (l[j]).1.ownBlock ≠ some b := by
  have hp := List.pairwise_iff_getElem.1 h.apart
  intro b h1 h2
  rcases Nat.lt_or_gt_of_ne hij with hlt | hgt
  · exact hp i j hi hj hlt b h1 h2
  · exact hp j i hj hi hgt b h2 h1
/-- One row of bytes grew. -/
theorem RowsV.put (h : RowsV wa base l) {i : Nat} (hi : i < l.length) (ho : Only (fun b => (l[i]).1.ownBlock = some b) wa w3) {v3 : Value} {m : List UInt8} (h3 : Own Rep.byte 5 w3 base nob v3 m) (hat : v3.ownBlock = (l[i]).1.ownBlock ∨ v3.ownBlock = some wa.heap.size) : RowsV w3 base (l.set i (v3, m)) := by
  have hv : ∀ j (hj : j < l.length), j ≠ i → ∀ b, v3.ownBlock = some b → (l[j]).1.ownBlock ≠ some b := by
    intro j hj hji b h1 h2
    rcases hat with e | e
    · rw [e] at h1; exact h.two hj hi hji b h2 h1
    · rw [e] at h1
      have := (h.lt _ (List.getElem_mem hj) b h2).2
      simp only [Option.some.injEq] at h1
      omega
  refine ⟨fun y hy => ?_, List.pairwise_iff_getElem.2 fun a b ha hb hab => ?_⟩
  · obtain ⟨j, hj, rfl⟩ := List.mem_iff_getElem.1 hy
    rw [List.length_set] at hj
    rw [List.getElem_set]
    split
    · exact h3
    · rename_i hne
      exact (h.own _ (List.getElem_mem hj)).only ho fun b h1 h2 => h.two hj hi (fun e => hne e.symm) b h1 h2
  · rw [List.length_set] at ha hb
    intro c
    rw [List.getElem_set, List.getElem_set]
    split
    · rename_i ea
      split
      · omega
      · rename_i eb
        exact hv b hb (fun e => eb e.symm) c
    · rename_i ea
      split
      · intro h1 h2
        exact hv a ha (fun e => ea e.symm) c h2 h1
      · exact h.two ha hb (by omega) c
end
section
variable {w wa w3 : World} {F : Blocks} {d : Nat} {s : Disk.St} {av nv ov rv pv : Value} {vs : List TN}
theorem setNd_all {i : Nat} (his : vs.map (·.1) = s.all) (hi : i < vs.length) (f : Disk.Nd → Disk.Nd) (v : Value) : (vs.set i (f (vs[i]).1, v)).map (·.1) = (s.setNd i f).all := by
  have hia : i < s.all.length := by rw [← his, List.length_map]; exact hi
  rw [List.map_set, his]
  simp only [Disk.St.setNd]
  have e1 : (vs[i]).1 = s.all[i] := by simp only [← his, List.getElem_map]
  rw [e1]
  apply List.ext_getElem?
  intro k
  rw [List.getElem?_set, List.getElem?_modify]
  by_cases hk : i = k
  · subst hk; simp [hia]
  · simp [hk]
/-- A file's bytes have grown. -/
theorem RefF.bytes {g n c i : Nat} {bs : List UInt8} {v3 : Value} (h : RefF w F d s (.slice (some ⟨g, 0, none⟩) n c) nv ov rv pv vs) (hi : i < vs.length) (hb : Below w.heap.size w wa)
    (hg : wa.grownBy w3 (vs[i]).2.ownBlock) (hat : v3.ownBlock = (vs[i]).2.ownBlock ∨ v3.ownBlock = some wa.heap.size) (h3 : Own Rep.byte 5 w3 0 nob v3 ((vs[i]).1.bytes ++ bs)) :
    RefF (w3.setCell ⟨g, i * 3, none⟩ v3) (grow F w (w3.setCell ⟨g, i * 3, none⟩ v3)) d (s.setNd i fun e => { e with bytes := e.bytes ++ bs }) (.slice (some ⟨g, 0, none⟩) n c) nv ov rv pv (vs.set i ({ (vs[i]).1 with bytes := (vs[i]).1.bytes ++ bs }, v3)) ∧
      Only F w (w3.setCell ⟨g, i * 3, none⟩ v3) ∧ w3.cell? ⟨g, i * 3, none⟩ = some (vs[i]).2 ∧ w3.frozen? ⟨g, i * 3, none⟩ = false := by
  rw [grow_set]
  have h' := h.far hb
  have ho : Only (fun b => (vs[i]).2.ownBlock = some b) wa w3 := Only.of_grown hg _ fun b hb => hb.symm
  have hmem : ((vs[i]).2, (vs[i]).1.bytes) ∈ vs.map fun x => (x.2, x.1.bytes) := List.mem_map.2 ⟨vs[i], List.getElem_mem hi, rfl⟩
  have hty : ∀ {b : Nat}, (vs[i]).2.ownBlock = some b → ∃ cur, wa.heap[b]? = some (.cells cur 5 (0, 0)) := fun hb => (h'.rows.own _ hmem).content hb
  have hsz : w.heap.size ≤ w3.heap.size := Nat.le_trans hb.size ho.size
  have hG3 : ∀ b, grow F w w3 b → b < w3.heap.size := grow_lt h.lt hsz
  have hd3 : w3.heap[d]? = _ := (ho.block d (h'.lt d h'.Fd) fun e => (h'.rows.own _ hmem).ne_block h'.hd (by decide) e).trans h'.hd
  have hall : Own Rep.nodeV 95 w3 0 nob (.slice (some ⟨g, 0, none⟩) n c) vs := h'.all.only ho fun b hb e => by obtain ⟨cur, hc⟩ := hty e; exact h'.all.ne_block hc (by decide) hb
  have hgd : g ≠ d := fun e => hall.ne_block (g := d) hd3 (by decide) (by rw [e]; rfl)
  obtain ⟨cur, hcur⟩ := hall.content (b := g) rfl
  obtain ⟨cs, hcs, hcl, hset⟩ := hall.setCellN hi
  obtain ⟨rfl, hsy, h1c⟩ := hcs
  have hv1 : v3.oneCell' = true := by
    obtain ⟨A, n, c, e, -⟩ := h3.form
    rw [e]; rfl
  have ho2 : Only (fun b => b = g) w3 (w3.setCell ⟨g, i * 3, none⟩ v3) := (Only.refl (fun b => b = g) w3).setCell (p := ⟨g, i * 3, none⟩) (.inl rfl) v3
  have hFg : F g := h.Fa g rfl
  have hrow3 : RowsV w3 0 ((vs.map fun x => (x.2, x.1.bytes)).set i (v3, (vs[i]).1.bytes ++ bs)) := by
    refine h'.rows.put (i := i) (by simpa using hi) ?_ h3 ?_
    · simpa using ho
    · simpa using hat
  have hrow : Own Rep.rchg 129 w3 0 nob rv s.row := h'.row.only ho fun b hb e => by obtain ⟨cur, hc⟩ := hty e; exact h'.row.ne_block hc (by decide) hb
  have hplan : Own Rep.fault 123 w3 0 nob pv s.plan := h'.plan.only ho fun b hb e => by obtain ⟨cur, hc⟩ := hty e; exact h'.plan.ne_block hc (by decide) hb
  have hnow : EntF w3 (grow F w w3) nv s.now := h'.now.same (fun _ h => .inl h) fun b hb => ho.block b hb.lt fun e => by obtain ⟨cur, hc⟩ := hty e; exact hb.ne hc (by decide) rfl
  have hold : EntF w3 (grow F w w3) ov s.old := h'.old.same (fun _ h => .inl h) fun b hb => ho.block b hb.lt fun e => by obtain ⟨cur, hc⟩ := hty e; exact hb.ne hc (by decide) rfl
  have hFi : ∀ b, (vs[i]).2.ownBlock = some b → F b := h.Fb _ (List.getElem_mem hi)
  refine ⟨⟨(ho2.block d (Array.getElem?_eq_some_iff.1 hd3).1 hgd.symm).trans hd3, ?_, setNd_all h.is_ hi (fun e => { e with bytes := e.bytes ++ bs }) v3, ?_, hnow.same (fun _ h => h) fun b hb => ho2.block b hb.lt (hb.ne hcur (by decide)), hold.same (fun _ h => h) fun b hb => ho2.block b hb.lt (hb.ne hcur (by decide)), hrow.only ho2 fun b hb e => ?_, hplan.only ho2 fun b hb e => ?_, .inl h.Fd, fun b hb => .inl (h.Fa b hb), fun y hy b hb => ?_, fun b hb => .inl (h.Fr b hb), fun b hb => .inl (h.Fp b hb), fun b hb => Nat.lt_of_lt_of_le (hG3 b hb) ho2.size⟩, ?_, ?_, by simp [World.frozen?, hcur]⟩
  · exact hset 0 v3 ({ (vs[i]).1 with bytes := (vs[i]).1.bytes ++ bs }, v3) (by decide) ⟨rfl, hsy, hv1⟩
  · rw [List.map_set]
    exact hrow3.only ho2 fun x hx b hb e => by subst e; exact hrow3.ne hcur (by decide) x hx hb
  · subst e; exact hrow.ne_block hcur (by decide) hb
  · subst e; exact hplan.ne_block hcur (by decide) hb
  · rcases List.mem_or_eq_of_mem_set hy with hy | rfl
    · exact .inl (h.Fb y hy b hb)
    · simp only at hb
      rcases hat with e | e
      · rw [e] at hb; exact .inl (hFi b hb)
      · have := (h3.block_lt hb).2
        rw [e] at hb
        simp only [Option.some.injEq] at hb
        subst hb
        exact .inr ⟨hb.size, this⟩
  · exact ((Only.of_below hb F).trans ho fun b hb => .inl (hFi b hb)).setCell (p := ⟨g, i * 3, none⟩) (.inl hFg) _
  · have := hcl 0 _ rfl; simpa [Rep.nodeV] using this
end
end Go.Proofs.YtncpeogkccjmcaaGreatDoor
namespace Go.Proofs.YtncpeogkccjmcaaGreatDoor
open Go.RowKit Go.ChangeShapes Go.WideShapes Go.Deep

section
variable {w w3 : World} {base : Nat} {l : List (Value × List UInt8)}
/-- One row of bytes put by a new one. -/
theorem RowsV.fresh (h : RowsV w base l) (hb : Below w.heap.size w w3) (hB : base ≤ w.heap.size) {i : Nat} {v3 : Value} {m : List UInt8} (h3 : Own Rep.byte 5 w3 w.heap.size nob v3 m) : RowsV w3 base (l.set i (v3, m)) := by
  have hv : ∀ j (hj : j < l.length), ∀ b, v3.ownBlock = some b → (l[j]).1.ownBlock ≠ some b := by
    intro j hj b h1 h2
    have := (h.lt _ (List.getElem_mem hj) b h2).2
    have := (h3.block_lt h1).1
    omega
  refine ⟨fun y hy => ?_, List.pairwise_iff_getElem.2 fun a b ha hb' hab => ?_⟩
  · rcases List.mem_or_eq_of_mem_set hy with hy | rfl
    · exact (h.own y hy).far hb
    · exact h3.low hB
  · rw [List.length_set] at ha hb'
    intro c
    rw [List.getElem_set, List.getElem_set]
    split
    · split
      · omega
      · exact hv b hb' c
    · split
      · intro h1 h2
        exact hv a ha c h2 h1
      · exact h.two ha hb' (by omega) c
end
section
variable {w w3 : World} {F : Blocks} {d : Nat} {s : Disk.St} {av nv ov rv pv : Value} {vs : List TN}
/-- A file's bytes are put by new ones. -/
theorem RefF.fresh {g n c i : Nat} {bs : List UInt8} {v3 : Value} (h : RefF w F d s (.slice (some ⟨g, 0, none⟩) n c) nv ov rv pv vs) (hi : i < vs.length) (hb : Below w.heap.size w w3) (h3 : Own Rep.byte 5 w3 w.heap.size nob v3 bs) :
    RefF (w3.setCell ⟨g, i * 3, none⟩ v3) (grow F w (w3.setCell ⟨g, i * 3, none⟩ v3)) d (s.setNd i fun e => { e with bytes := bs }) (.slice (some ⟨g, 0, none⟩) n c) nv ov rv pv (vs.set i ({ (vs[i]).1 with bytes := bs }, v3)) ∧
      Only F w (w3.setCell ⟨g, i * 3, none⟩ v3) ∧ w3.cell? ⟨g, i * 3, none⟩ = some (vs[i]).2 ∧ w3.frozen? ⟨g, i * 3, none⟩ = false := by
  rw [grow_set]
  have h' := h.far hb
  have hG3 : ∀ b, grow F w w3 b → b < w3.heap.size := grow_lt h.lt hb.size
  have hall := h'.all
  have hgd : g ≠ d := fun e => hall.ne_block (g := d) h'.hd (by decide) (by rw [e]; rfl)
  obtain ⟨cur, hcur⟩ := hall.content (b := g) rfl
  obtain ⟨cs, hcs, hcl, hset⟩ := hall.setCellN hi
  obtain ⟨rfl, hsy, h1c⟩ := hcs
  have hv1 : v3.oneCell' = true := by
    obtain ⟨A, n, c, e, -⟩ := h3.form
    rw [e]; rfl
  have ho2 : Only (fun b => b = g) w3 (w3.setCell ⟨g, i * 3, none⟩ v3) := (Only.refl (fun b => b = g) w3).setCell (p := ⟨g, i * 3, none⟩) (.inl rfl) v3
  have hFg : F g := h.Fa g rfl
  have hrow3 : RowsV w3 0 ((vs.map fun x => (x.2, x.1.bytes)).set i (v3, bs)) := h.rows.fresh hb (Nat.zero_le _) h3
  have hnow : EntF w3 (grow F w w3) nv s.now := h'.now.same (fun _ h => .inl h) fun b hb => rfl
  have hold : EntF w3 (grow F w w3) ov s.old := h'.old.same (fun _ h => .inl h) fun b hb => rfl
  refine ⟨⟨(ho2.block d (Array.getElem?_eq_some_iff.1 h'.hd).1 hgd.symm).trans h'.hd, ?_, setNd_all h.is_ hi (fun e => { e with bytes := bs }) v3, ?_, hnow.same (fun _ h => h) fun b hb => ho2.block b hb.lt (hb.ne hcur (by decide)), hold.same (fun _ h => h) fun b hb => ho2.block b hb.lt (hb.ne hcur (by decide)), h'.row.only ho2 fun b hb e => ?_, h'.plan.only ho2 fun b hb e => ?_, .inl h.Fd, fun b hb => .inl (h.Fa b hb), fun y hy b hb => ?_, fun b hb => .inl (h.Fr b hb), fun b hb => .inl (h.Fp b hb), fun b hb => Nat.lt_of_lt_of_le (hG3 b hb) ho2.size⟩, ?_, ?_, by simp [World.frozen?, hcur]⟩
  · exact hset 0 v3 ({ (vs[i]).1 with bytes := bs }, v3) (by decide) ⟨rfl, hsy, hv1⟩
  · rw [List.map_set]
    exact hrow3.only ho2 fun x hx b hb e => by subst e; exact hrow3.ne hcur (by decide) x hx hb
  · subst e; exact h'.row.ne_block hcur (by decide) hb
  · subst e; exact h'.plan.ne_block hcur (by decide) hb
  · rcases List.mem_or_eq_of_mem_set hy with hy | rfl
    · exact .inl (h.Fb y hy b hb)
    · exact .inr (h3.block_lt hb)
  · exact (Only.of_below hb F).setCell (p := ⟨g, i * 3, none⟩) (.inl hFg) _
  · have := hcl 0 _ rfl; simpa [Rep.nodeV] using this
end
theorem setNd_cut (s : Disk.St) (i : Nat) (k : Option Int) {e : Disk.Nd} (he : s.all[i]? = some e) (hs : e.syn ≤ e.bytes.length) :
    ((s.setNd i fun x => { x with bytes := (Disk.St.cutNd e k).bytes }).setNd i fun x => { x with syn := (Disk.St.cutNd e k).bytes.length }) = s.setNd i fun x => Disk.St.cutNd x k := by
  have hc : (Disk.St.cutNd e k).syn = (Disk.St.cutNd e k).bytes.length := by
    cases k with
    | none =>
      show e.syn + 0 = (e.bytes.take (e.syn + 0)).length
      rw [List.length_take]; omega
    | some k =>
      have h1 : Disk.St.left k (e.bytes.length - e.syn) ≤ e.bytes.length - e.syn := Nat.min_le_right _ _
      show e.syn + Disk.St.left k (e.bytes.length - e.syn) = (e.bytes.take (e.syn + Disk.St.left k (e.bytes.length - e.syn))).length
      rw [List.length_take]; omega
  have hb : (Disk.St.cutNd e k).bad = e.bad := rfl
  unfold Disk.St.setNd
  congr 1
  dsimp only
  apply List.ext_getElem?
  intro j
  rw [List.getElem?_modify, List.getElem?_modify, List.getElem?_modify]
  by_cases hj : i = j
  · subst hj
    rw [he]
    simp only [if_true]
    have key : (⟨(Disk.St.cutNd e k).bytes, (Disk.St.cutNd e k).bytes.length, e.bad⟩ : Disk.Nd) = Disk.St.cutNd e k := by rw [← hc, ← hb]
    exact congrArg some key
  · simp [hj]
end Go.Proofs.YtncpeogkccjmcaaGreatDoor
