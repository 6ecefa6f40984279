/- Texts that lead to the claim, one behind the other: A disk of files, in lists: what each call makes of it. No program in sight. No conditions. | A disk of files: what every call keeps, and what a refused one does. No program in sight. No conditions. | A disk of files: what every disk is, and stays. No program in sight. No conditions. | A disk of files: the names behind a loss of power (DiskNames), the files behind one (DiskTails). No program in sight. No conditions. | A disk of files: the bounds that every disk keeps. No program in sight. No conditions. | A file made, appended to, synced and renamed over another one: what is left wherever the power goes. No program in sight. No conditions. | A disk with files, in lists: when there is one, and which. No program in sight. No conditions. -/
namespace Go.Proofs.YtncpeogkccjmcaaGreatDoor
namespace Disk

abbrev Nm := List UInt8
/-- A folder: names and the numbers of their files, the names rising. -/
abbrev Fo := List (Nm × Nat)

theorem lt_trans {a b c : Nm} (h : a < b) (k : b < c) : a < c := List.lt_trans h k
theorem lt_irrefl (a : Nm) : ¬ a < a := List.lt_irrefl a
theorem lt_tri (a b : Nm) : a < b ∨ a = b ∨ b < a := by
  rcases Decidable.em (a < b) with h | h
  · exact .inl h
  · rcases Decidable.em (b < a) with k | k
    · exact .inr (.inr k)
    · exact .inr (.inl (List.le_antisymm (List.not_lt.1 k) (List.not_lt.1 h)))
theorem le_of_lt {a b : Nm} (h : a < b) : a ≤ b := List.le_of_lt h

structure Nd where
  bytes : List UInt8
  syn : Nat
  bad : Bool

structure Chg where
  src : Nm
  dst : Nm
  id : Nat

def find (l : Fo) (k : Nm) : Option Nat := (l.find? fun p => p.1 == k).map (·.2)
def drop (l : Fo) (k : Nm) : Fo := l.filter fun p => p.1 != k
def ins (k : Nm) (i : Nat) : Fo → Fo
  | [] => [(k, i)]
  | p :: r => if k < p.1 then (k, i) :: p :: r else p :: ins k i r
def put (l : Fo) (k : Nm) (i : Nat) : Fo := ins k i (drop l k)
def behind (l : Fo) (c : Chg) : Fo :=
  let l := if c.src = [] then l else drop l c.src
  if c.dst = [] then l else put l c.dst c.id
def keys (l : Fo) : List Nm := l.map (·.1)
def Rising (l : Fo) : Prop := l.Pairwise fun p q => p.1 < q.1

theorem mem_keys {l : Fo} {k : Nm} : k ∈ keys l ↔ (find l k).isSome = true := by
  simp [keys, find, List.find?_isSome]

theorem find_none {l : Fo} {k : Nm} : find l k = none ↔ k ∉ keys l := by
  rw [mem_keys]; cases find l k <;> simp

theorem find_of_mem {l : Fo} (h : Rising l) {k : Nm} {i : Nat} (hm : (k, i) ∈ l) : find l k = some i := by
  induction l with
  | nil => simp at hm
  | cons p r ih =>
    obtain ⟨h1, h2⟩ := List.pairwise_cons.1 h
    rcases List.mem_cons.1 hm with e | hm
    · subst e; simp [find]
    · have hlt := h1 _ hm
      have hne : (p.1 == k) = false := by
        rw [beq_eq_false_iff_ne]; intro e; rw [e] at hlt; exact lt_irrefl _ hlt
      have := ih h2 hm
      unfold find at this ⊢
      rw [List.find?_cons, hne]
      exact this

theorem mem_of_find {l : Fo} {k : Nm} {i : Nat} (h : find l k = some i) : (k, i) ∈ l := by
  unfold find at h
  obtain ⟨p, hp, rfl⟩ := Option.map_eq_some_iff.1 h
  have h1 := List.find?_some hp
  have h2 := List.mem_of_find?_eq_some hp
  obtain ⟨a, b⟩ := p
  have : a = k := by simpa using h1
  subst this
  exact h2

theorem find_drop_same (l : Fo) (k : Nm) : find (drop l k) k = none := by
  rw [find_none]; simp [keys, drop]

theorem find_drop_other (l : Fo) {k k' : Nm} (h : k' ≠ k) : find (drop l k) k' = find l k' := by
  unfold find drop
  rw [List.find?_filter]
  congr 2
  funext p
  cases e : (p.1 == k')
  · simp
  · have : p.1 = k' := by simpa using e
    simp [this, h]

theorem Rising.drop {l : Fo} (h : Rising l) (k : Nm) : Rising (drop l k) := h.filter _

theorem mem_ins {k : Nm} {i : Nat} {q : Nm × Nat} : ∀ {l : Fo}, q ∈ ins k i l ↔ q = (k, i) ∨ q ∈ l
  | [] => by simp [ins]
  | p :: r => by
    unfold ins
    split
    · simp
    · simp only [List.mem_cons, mem_ins (l := r)]
      constructor
      · rintro (h | h | h) <;> simp [h]
      · rintro (h | h | h) <;> simp [h]

theorem Rising.ins {l : Fo} (h : Rising l) {k : Nm} (i : Nat) (hk : k ∉ keys l) : Rising (ins k i l) := by
  induction l with
  | nil => simp [Disk.ins, Rising]
  | cons p r ih =>
    obtain ⟨h1, h2⟩ := List.pairwise_cons.1 h
    have hne : k ≠ p.1 := fun e => hk (by simp [keys, e])
    have hk' : k ∉ keys r := fun e => hk (by simp [keys] at e ⊢; exact .inr e)
    unfold Disk.ins
    split
    · rename_i hlt
      refine List.pairwise_cons.2 ⟨fun q hq => ?_, h⟩
      rcases List.mem_cons.1 hq with rfl | hq
      · exact hlt
      · exact lt_trans hlt (h1 q hq)
    · rename_i hlt
      refine List.pairwise_cons.2 ⟨fun q hq => ?_, ih h2 hk'⟩
      rcases mem_ins.1 hq with rfl | hq
      · rcases lt_tri k p.1 with h | h | h
        · exact absurd h hlt
        · exact absurd h hne
        · exact h
      · exact h1 q hq

theorem Rising.put {l : Fo} (h : Rising l) (k : Nm) (i : Nat) : Rising (put l k i) :=
  (h.drop k).ins i (find_none.1 (find_drop_same l k))

theorem find_put_same {l : Fo} (h : Rising l) (k : Nm) (i : Nat) : find (put l k i) k = some i :=
  find_of_mem (h.put k i) (mem_ins.2 (.inl rfl))

theorem find_ext {l l' : Fo} (h : Rising l) (h' : Rising l') (e : ∀ k, find l k = find l' k) : l = l' := by
  have hm : ∀ p : Nm × Nat, p ∈ l ↔ p ∈ l' := fun ⟨k, i⟩ =>
    ⟨fun hp => mem_of_find ((e k).symm.trans (find_of_mem h hp)), fun hp => mem_of_find ((e k).trans (find_of_mem h' hp))⟩
  clear e
  induction l generalizing l' with
  | nil =>
    cases l' with
    | nil => rfl
    | cons q s => have := (hm q).2 (by simp); simp at this
  | cons p r ih =>
    cases l' with
    | nil => have := (hm p).1 (by simp); simp at this
    | cons q s =>
      obtain ⟨a1, a2⟩ := List.pairwise_cons.1 h
      obtain ⟨b1, b2⟩ := List.pairwise_cons.1 h'
      have hpq : p = q := by
        rcases List.mem_cons.1 ((hm p).1 (by simp)) with e | hp
        · exact e
        · rcases List.mem_cons.1 ((hm q).2 (by simp)) with e | hq
          · exact e.symm
          · exact absurd (lt_trans (a1 q hq) (b1 p hp)) (lt_irrefl _)
      subst hpq
      congr 1
      refine ih a2 b2 fun x => ⟨fun hx => ?_, fun hx => ?_⟩
      · rcases List.mem_cons.1 ((hm x).1 (by simp [hx])) with e | hx'
        · subst e; exact absurd (a1 x hx) (lt_irrefl _)
        · exact hx'
      · rcases List.mem_cons.1 ((hm x).2 (by simp [hx])) with e | hx'
        · subst e; exact absurd (b1 x hx) (lt_irrefl _)
        · exact hx'

theorem find_put_other {l : Fo} (h : Rising l) {k k' : Nm} (i : Nat) (hne : k' ≠ k) : find (put l k i) k' = find l k' := by
  rw [← find_drop_other l hne]
  cases e : find (drop l k) k' with
  | none =>
    rw [find_none] at e ⊢
    intro hm
    simp only [keys, List.mem_map] at hm
    obtain ⟨q, hq, rfl⟩ := hm
    rcases mem_ins.1 hq with rfl | hq
    · exact hne rfl
    · exact e (List.mem_map.2 ⟨q, hq, rfl⟩)
  | some j => exact find_of_mem (h.put k i) (mem_ins.2 (.inr (mem_of_find e)))

theorem Rising.behind {l : Fo} (h : Rising l) (c : Chg) : Rising (behind l c) := by
  unfold Disk.behind
  dsimp only
  have h1 : Rising (if c.src = [] then l else Disk.drop l c.src) := by
    split
    · exact h
    · exact h.drop _
  split
  · exact h1
  · exact h1.put _ _

theorem Rising.fold {l : Fo} (h : Rising l) : ∀ cs : List Chg, Rising (cs.foldl Disk.behind l)
  | [] => h
  | c :: r => Rising.fold (h.behind c) r

/-- Keys gathered in any order, sorted, are the names of the folder. -/
theorem sorted_keys {l : Fo} (h : Rising l) (ks : List Nm) (hn : ks.Nodup) (hm : ∀ k, k ∈ ks ↔ (find l k).isSome = true) : ks.mergeSort (fun x y => decide (x ≤ y)) = keys l := by
  have hle : (keys l).Pairwise fun a b => decide (a ≤ b) = true := by
    unfold keys
    rw [List.pairwise_map]
    exact h.imp fun hab => by simpa using le_of_lt hab
  have hnd : (keys l).Nodup := by
    unfold keys List.Nodup
    rw [List.pairwise_map]
    exact h.imp fun hab e => by rw [e] at hab; exact lt_irrefl _ hab
  have hp : (ks.mergeSort fun x y => decide (x ≤ y)).Perm (keys l) := by
    refine (List.mergeSort_perm _ _).trans ?_
    rw [List.perm_ext_iff_of_nodup hn hnd]
    intro k
    rw [hm, mem_keys]
  have hs : (ks.mergeSort fun x y => decide (x ≤ y)).Pairwise fun a b => decide (a ≤ b) = true :=
    List.pairwise_mergeSort (fun a b c h1 h2 => by
      have h1 : a ≤ b := by simpa using h1
      have h2 : b ≤ c := by simpa using h2
      simpa using List.le_trans h1 h2) (fun a b => by
      rcases List.le_total a b with h | h <;> simp [h]) ks
  exact hp.eq_of_pairwise (fun a b _ _ h1 h2 => List.le_antisymm (by simpa using h1) (by simpa using h2)) hs hle

/-! ### how many, and which files -/
theorem len_ins (k : Nm) (i : Nat) : ∀ l : Fo, (ins k i l).length = l.length + 1
  | [] => rfl
  | p :: r => by
    unfold ins
    split
    · rfl
    · simp [len_ins k i r]

theorem drop_none {l : Fo} {k : Nm} (h : find l k = none) : drop l k = l := by
  rw [find_none] at h
  unfold drop
  rw [List.filter_eq_self]
  intro p hp
  rw [bne_iff_ne]
  exact fun e => h (List.mem_map.2 ⟨p, hp, e⟩)

theorem len_drop {l : Fo} (h : Rising l) (k : Nm) : (drop l k).length + (if (find l k).isSome then 1 else 0) = l.length := by
  induction l with
  | nil => rfl
  | cons p r ih =>
    obtain ⟨h1, h2⟩ := List.pairwise_cons.1 h
    cases e : (p.1 == k)
    · have e1 : drop (p :: r) k = p :: drop r k := by simp [drop, e, bne]
      have e2 : find (p :: r) k = find r k := by simp [find, e]
      rw [e1, e2, List.length_cons, List.length_cons]
      have := ih h2
      omega
    · have hk : p.1 = k := by simpa using e
      have e2 : find (p :: r) k = some p.2 := by simp [find, e]
      have e0 : find r k = none := by
        rw [find_none]
        intro hm
        obtain ⟨q, hq, hqk⟩ := List.mem_map.1 hm
        have := h1 q hq
        rw [hk, ← hqk] at this
        exact lt_irrefl _ this
      have e1 : drop (p :: r) k = drop r k := by simp [drop, e, bne]
      rw [e1, e2, drop_none e0]
      rfl

theorem len_put {l : Fo} (h : Rising l) (k : Nm) (i : Nat) : (put l k i).length = if (find l k).isSome then l.length else l.length + 1 := by
  have := len_drop h k
  unfold put
  rw [len_ins]
  split <;> simp_all

/-- Which files a folder has. -/
def ids (l : Fo) : List Nat := l.map (·.2)
theorem ids_drop {l : Fo} {k : Nm} {i : Nat} (h : i ∈ ids (drop l k)) : i ∈ ids l := by
  obtain ⟨p, hp, rfl⟩ := List.mem_map.1 h
  exact List.mem_map.2 ⟨p, (List.mem_filter.1 hp).1, rfl⟩
theorem ids_put {l : Fo} {k : Nm} {i j : Nat} (h : j ∈ ids (put l k i)) : j = i ∨ j ∈ ids l := by
  obtain ⟨p, hp, rfl⟩ := List.mem_map.1 h
  rcases mem_ins.1 hp with rfl | hp
  · exact .inl rfl
  · exact .inr (ids_drop (List.mem_map.2 ⟨p, hp, rfl⟩))
theorem ids_behind {l : Fo} {c : Chg} {j : Nat} (h : j ∈ ids (behind l c)) : (j = c.id ∧ c.dst ≠ []) ∨ j ∈ ids l := by
  unfold behind at h
  dsimp only at h
  split at h
  · split at h
    · exact .inr h
    · exact .inr (ids_drop h)
  · rename_i hd
    rcases ids_put h with rfl | h
    · exact .inl ⟨rfl, hd⟩
    · split at h
      · exact .inr h
      · exact .inr (ids_drop h)

theorem nodup_ins {k : Nm} {i : Nat} : ∀ {l : Fo}, (ids l).Nodup → i ∉ ids l → (ids (ins k i l)).Nodup
  | [], _, _ => by simp [ins, ids]
  | p :: r, h, hi => by
    have h' : p.2 ∉ ids r ∧ (ids r).Nodup := by simpa [ids] using h
    have hi' : i ≠ p.2 ∧ i ∉ ids r := by simpa [ids] using hi
    unfold ins
    split
    · simp only [ids, List.map_cons, List.nodup_cons, List.mem_cons] at hi h ⊢
      exact ⟨hi, h⟩
    · have ih := nodup_ins (k := k) h'.2 hi'.2
      have : p.2 ∉ ids (ins k i r) := by
        intro hm
        obtain ⟨q, hq, hqe⟩ := List.mem_map.1 hm
        rcases mem_ins.1 hq with rfl | hq
        · exact hi'.1 hqe
        · exact h'.1 (List.mem_map.2 ⟨q, hq, hqe⟩)
      simp only [ids, List.map_cons, List.nodup_cons] at this ih ⊢
      exact ⟨this, ih⟩
theorem nodup_drop {l : Fo} (k : Nm) (h : (ids l).Nodup) : (ids (drop l k)).Nodup := by
  unfold ids drop
  exact h.sublist (List.filter_sublist.map _)
theorem nodup_put {l : Fo} (k : Nm) {i : Nat} (h : (ids l).Nodup) (hi : i ∉ ids (drop l k)) : (ids (put l k i)).Nodup := nodup_ins (nodup_drop k h) hi

/-! ### the disk -/
/-- May a file stand under it? -/
def isName (s : Nm) : Bool := decide (1 ≤ s.length) && decide (s.length ≤ 64) && !s.any fun b => b == 0 || b == 10 || b == 47

/-- All files that ever were, the folder, the durable one, the changes between them, what is planned. -/
structure St where
  room : Int
  on : Bool
  all : List Nd
  now : Fo
  old : Fo
  row : List Chg
  plan : List (Int × Int)
  tries : Int
  done : Int

namespace St
def size (s : St) (l : Fo) : Nat := (l.map fun p => (s.all[p.2]?.map (·.bytes.length)).getD 0).sum
/-- What hinders a look: at names, at a file. -/
def looked (s : St) (has : Nm) (names : List Nm) : Int :=
  if !s.on then 24 else if names.any (fun n => !isName n) then 20 else if has ≠ [] ∧ find s.now has = none then 21 else 0
/-- The next try: what the plan has for it. -/
def tried (s : St) : St × Int :=
  match s.plan.find? (fun f => f.1 == s.tries + 1) with
  | none => ({ s with tries := s.tries + 1 }, 0)
  | some f => ({ s with tries := s.tries + 1, on := s.on && f.2 != 24 }, f.2)
def changes (s : St) (c : Chg) : St := { s with now := behind s.now c, row := s.row ++ [c] }
def more (s : St) : St := { s with done := s.done + 1 }
def settled (s : St) : St := { s with old := s.now, row := [] }
/-- A call with names that may ask for a file: what it does where nothing hinders. -/
def call (s : St) (names : List Nm) (has : Nm) (f : St → St × Int) : St × Int :=
  if s.looked [] names ≠ 0 then (s, s.looked [] names)
  else if s.looked has [] ≠ 0 then (s, s.looked has [])
  else if s.tried.2 ≠ 0 then s.tried else f s.tried.1
def make (s : St) (n : Nm) : St × Int :=
  s.call [n] [] fun s => if find s.now n = none ∧ 64 ≤ s.now.length then (s, 22)
    else ((changes { s with all := s.all ++ [⟨[], 0, false⟩] } ⟨[], n, s.all.length⟩).more, 0)
def setNd (s : St) (i : Nat) (f : Nd → Nd) : St := { s with all := s.all.modify i f }
def append (s : St) (n : Nm) (b : List UInt8) : St × Int :=
  s.call [n] n fun s => if 0 < b.length ∧ s.room - s.size s.now < b.length then (s, 22)
    else ((s.setNd ((find s.now n).getD 0) fun d => { d with bytes := d.bytes ++ b }).more, 0)
def sync (s : St) (n : Nm) : St × Int :=
  s.call [n] n fun s => ((s.setNd ((find s.now n).getD 0) fun d => { d with syn := d.bytes.length }).more, 0)
def rename (s : St) (n m : Nm) : St × Int :=
  s.call [n, m] n fun s => ((if n = m then s else s.changes ⟨n, m, (find s.now n).getD 0⟩).more, 0)
def remove (s : St) (n : Nm) : St × Int :=
  if s.looked [] [n] ≠ 0 then (s, s.looked [] [n])
  else if s.looked n [] ≠ 0 then (s, s.looked n [])
  else if s.tried.2 = 24 then s.tried else ((s.tried.1.changes ⟨n, [], 0⟩).more, 0)
def syncDir (s : St) : St × Int := s.call [] [] fun s => (s.settled.more, 0)
def there (s : St) (n : Nm) : Int := if s.looked [] [n] ≠ 0 then s.looked [] [n] else s.looked n []
def file (s : St) (n : Nm) : Nd := ((find s.now n).bind fun i => s.all[i]?).getD ⟨[], 0, false⟩
def read (s : St) (n : Nm) : List UInt8 × Int := if s.there n ≠ 0 then ([], s.there n) else if (s.file n).bad then ([], 23) else ((s.file n).bytes, 0)
def spoil (s : St) (n : Nm) (bad : Bool) : St × Int := if s.there n ≠ 0 then (s, s.there n) else (s.setNd ((find s.now n).getD 0) fun d => { d with bad := bad }, 0)
def planOk : Int → List (Int × Int) → Bool
  | _, [] => true
  | last, f :: r => decide (last < f.1) && (f.2 == 23 || f.2 == 22 || f.2 == 24) && planOk f.1 r
def plan_ (s : St) (l : List (Int × Int)) : St × Int := if planOk 0 l then ({ s with plan := l, tries := 0 }, 0) else (s, 1)
def names (s : St) : List Nm := if s.on then keys s.now else []
def files (s : St) : List (Nm × Nd) := if s.on then s.now.map fun p => (p.1, (s.all[p.2]?).getD ⟨[], 0, false⟩) else []
def off (s : St) : St := { s with on := false }
/-- A number from 0 to most. -/
def left (n : Int) (most : Nat) : Nat := min n.toNat most
/-- What is left of the files of a folder. -/
def cutNd (d : Nd) (k : Option Int) : Nd :=
  let n := d.syn + (match k with | none => 0 | some k => left k (d.bytes.length - d.syn))
  ⟨d.bytes.take n, n, d.bad⟩
def cuts (keep : List Int) : Nat → Fo → List Nd → List Nd
  | _, [], a => a
  | i, p :: r, a => cuts keep (i + 1) r (a.modify p.2 fun d => cutNd d keep[i]?)
def start (s : St) (dir : Int) (keep : List Int) : St :=
  if s.on then s else
    let l := (s.row.take (left dir s.row.length)).foldl behind s.old
    { s with now := l, old := l, row := [], on := true, all := cuts keep 0 l s.all }
end St

/-- What every disk is. -/
structure Good (s : St) : Prop where
  now : s.now = s.row.foldl behind s.old
  old : Rising s.old
  nodup : ∀ k, (ids ((s.row.take k).foldl behind s.old)).Nodup
  have_ : ∀ k, ∀ i ∈ ids ((s.row.take k).foldl behind s.old), i < s.all.length
  sync : ∀ d ∈ s.all, d.syn ≤ d.bytes.length
  names : ∀ c ∈ s.row, (c.src ≠ [] ∨ c.dst ≠ [])

end Disk
end Go.Proofs.YtncpeogkccjmcaaGreatDoor
namespace Go.Proofs.YtncpeogkccjmcaaGreatDoor
namespace Disk

/-- A call. -/
inductive Do
  | make (n : Nm)
  | append (n : Nm) (b : List UInt8)
  | sync (n : Nm)
  | rename (n m : Nm)
  | remove (n : Nm)
  | syncDir
  | read (n : Nm)
  | spoil (n : Nm) (bad : Bool)
  | plan (l : List (Int × Int))
  | off
  | start (dir : Int) (keep : List Int)
  | none

def St.act (s : St) : Do → St × Int
  | .make n => s.make n
  | .append n b => s.append n b
  | .sync n => s.sync n
  | .rename n m => s.rename n m
  | .remove n => s.remove n
  | .syncDir => s.syncDir
  | .read n => (s, (s.read n).2)
  | .spoil n b => s.spoil n b
  | .plan l => s.plan_ l
  | .off => (s.off, 0)
  | .start d k => (s.start d k, 0)
  | .none => (s, 0)

/-- What a refused call leaves. -/
structure Kept (s t : St) (e : Int) : Prop where
  row : t.row = s.row
  done : t.done = s.done
  down : e = 24 → t.on = false
  up : e ≠ 24 → t.on = s.on ∧ t.files = s.files

theorem files_of {s t : St} (h1 : t.on = s.on) (h2 : t.all = s.all) (h3 : t.now = s.now) : t.files = s.files := by
  unfold St.files; rw [h1, h2, h3]

theorem tried_kept (s : St) : s.tried.1.row = s.row ∧ s.tried.1.done = s.done ∧ s.tried.1.all = s.all ∧ s.tried.1.now = s.now ∧ s.tried.1.old = s.old ∧ s.tried.1.room = s.room ∧ (s.tried.2 ≠ 24 → s.tried.1.on = s.on) ∧ (s.tried.2 = 24 → s.tried.1.on = false) := by
  unfold St.tried
  split
  · simp
  · refine ⟨rfl, rfl, rfl, rfl, rfl, rfl, fun h => ?_, fun h => ?_⟩
    · simp only [ne_eq] at h
      simp [bne, h]
    · simp only at h
      simp [h]

theorem looked_down {s : St} {has : Nm} {names : List Nm} (h : s.looked has names = 24) : s.on = false := by
  unfold St.looked at h
  cases e : s.on
  · rfl
  · rw [e] at h
    simp at h
    split at h
    · simp at h
    · split at h <;> simp at h

theorem Kept.refl {s : St} {e : Int} (h : e = 24 → s.on = false) : Kept s s e := ⟨rfl, rfl, h, fun _ => ⟨rfl, rfl⟩⟩
theorem kept_tried {s : St} : Kept s s.tried.1 s.tried.2 := by
  obtain ⟨h1, h2, h3, h4, h5, h6, h7, h8⟩ := tried_kept s
  exact ⟨h1, h2, h8, fun h => ⟨h7 h, files_of (h7 h) h3 h4⟩⟩

theorem kept_call {s : St} {names : List Nm} {has : Nm} {f : St → St × Int} {t : St} {e : Int} (h : s.call names has f = (t, e)) (he : e ≠ 0)
    (hf : ∀ s' t, f s' = (t, e) → e ≠ 24 ∧ t = s') : Kept s t e := by
  unfold St.call at h
  split at h
  · cases h; exact .refl looked_down
  · split at h
    · cases h; exact .refl looked_down
    · split at h
      · have : t = s.tried.1 ∧ e = s.tried.2 := by rw [h]; exact ⟨rfl, rfl⟩
        obtain ⟨rfl, rfl⟩ := this
        exact kept_tried
      · rename_i h0
        obtain ⟨h24, rfl⟩ := hf _ _ h
        obtain ⟨h1, h2, h3, h4, h5, h6, h7, h8⟩ := tried_kept s
        have h0' : s.tried.2 ≠ 24 := by
          intro e
          rw [e] at h0
          exact h0 (by decide)
        exact ⟨h1, h2, fun h => absurd h h24, fun _ => ⟨h7 h0', files_of (h7 h0') h3 h4⟩⟩

/-- What is refused changes nothing; where the power goes, just that. -/
theorem refused {s t : St} {o : Do} {e : Int} (h : s.act o = (t, e)) (he : e ≠ 0) : Kept s t e := by
  cases o <;> simp only [St.act] at h
  case' make n => unfold St.make at h
  case' append n b => unfold St.append at h
  case' sync n => unfold St.sync at h
  case' rename n m => unfold St.rename at h
  case' syncDir => unfold St.syncDir at h
  case make =>
    refine kept_call h he fun s' t ht => ?_
    split at ht
    · cases ht; exact ⟨by decide, rfl⟩
    · cases ht; exact absurd rfl he
  case append =>
    refine kept_call h he fun s' t ht => ?_
    split at ht
    · cases ht; exact ⟨by decide, rfl⟩
    · cases ht; exact absurd rfl he
  case sync => exact kept_call h he fun s' t ht => by cases ht; exact absurd rfl he
  case rename => exact kept_call h he fun s' t ht => by cases ht; exact absurd rfl he
  case syncDir => exact kept_call h he fun s' t ht => by cases ht; exact absurd rfl he
  case remove n =>
    unfold St.remove at h
    split at h
    · cases h; exact .refl looked_down
    · split at h
      · cases h; exact .refl looked_down
      · split at h
        · have : t = s.tried.1 ∧ e = s.tried.2 := by rw [h]; exact ⟨rfl, rfl⟩
          obtain ⟨rfl, rfl⟩ := this
          exact kept_tried
        · cases h; exact absurd rfl he
  case read n =>
    obtain ⟨h1, h2⟩ := Prod.mk.inj h
    subst h1
    refine .refl fun h24 => ?_
    rw [← h2] at h24
    unfold St.read at h24
    split at h24
    · dsimp only at h24
      unfold St.there at h24
      split at h24
      · exact looked_down h24
      · exact looked_down h24
    · split at h24 <;> simp at h24
  case spoil n b =>
    unfold St.spoil at h
    split at h
    · cases h
      refine .refl fun h24 => ?_
      unfold St.there at h24
      split at h24
      · exact looked_down h24
      · exact looked_down h24
    · cases h; exact absurd rfl he
  case plan l =>
    unfold St.plan_ at h
    split at h
    · cases h; exact absurd rfl he
    · cases h; exact .refl fun h => by simp at h
  case off => cases h; exact absurd rfl he
  case start d k => cases h; exact absurd rfl he
  case none => cases h; exact absurd rfl he

end Disk
end Go.Proofs.YtncpeogkccjmcaaGreatDoor
namespace Go.Proofs.YtncpeogkccjmcaaGreatDoor
namespace Disk

/-- The folder behind so many changes. -/
def St.at_ (s : St) (k : Nat) : Fo := (s.row.take k).foldl behind s.old

theorem Good.at_all {s : St} (h : Good s) : s.at_ s.row.length = s.now := by
  unfold St.at_; rw [List.take_length]; exact h.now.symm
theorem Good.rising {s : St} (h : Good s) (k : Nat) : Rising (s.at_ k) := h.old.fold _
theorem Good.nowR {s : St} (h : Good s) : Rising s.now := by rw [← h.at_all]; exact h.rising _
theorem Good.nowN {s : St} (h : Good s) : (ids s.now).Nodup := by rw [← h.at_all]; exact h.nodup _
theorem Good.nowI {s : St} (h : Good s) {i : Nat} (hi : i ∈ ids s.now) : i < s.all.length := by rw [← h.at_all] at hi; exact h.have_ _ i hi

theorem good_same {s t : St} (h : Good s) (h1 : t.row = s.row) (h2 : t.now = s.now) (h3 : t.old = s.old) (h4 : s.all.length ≤ t.all.length) (h5 : ∀ d ∈ t.all, d.syn ≤ d.bytes.length) : Good t :=
  ⟨by rw [h1, h2, h3]; exact h.now, by rw [h3]; exact h.old, by rw [h1, h3]; exact h.nodup, by rw [h1, h3]; exact fun k i hi => Nat.lt_of_lt_of_le (h.have_ k i hi) h4, h5, by rw [h1]; exact h.names⟩

theorem good_tried {s : St} (h : Good s) : Good s.tried.1 := by
  obtain ⟨h1, h2, h3, h4, h5, h6, h7, h8⟩ := tried_kept s
  exact good_same h h1 h4 h5 (by rw [h3]; exact Nat.le_refl _) (by rw [h3]; exact h.sync)

theorem good_more {s : St} (h : Good s) : Good s.more := ⟨h.now, h.old, h.nodup, h.have_, h.sync, h.names⟩

theorem at_changes (s : St) (c : Chg) (k : Nat) : (s.changes c).at_ k = if k ≤ s.row.length then s.at_ k else behind (s.at_ s.row.length) c := by
  unfold St.at_ St.changes
  dsimp only
  split
  · rename_i h
    rw [List.take_append_of_le_length h]
  · rename_i h
    rw [List.take_of_length_le (by simp; omega), List.foldl_append, List.take_length]
    rfl

theorem good_changes {s : St} (h : Good s) (c : Chg) (hn : (ids (behind s.now c)).Nodup) (hi : c.dst ≠ [] → c.id < s.all.length) (hs : c.src ≠ [] ∨ c.dst ≠ []) : Good (s.changes c) := by
  have key : ∀ k, (s.changes c).at_ k = if k ≤ s.row.length then s.at_ k else behind s.now c := fun k => by rw [at_changes, h.at_all]
  refine ⟨?_, h.old, fun k => ?_, fun k i hk => ?_, h.sync, fun d hd => ?_⟩
  · show behind s.now c = (s.row ++ [c]).foldl behind s.old
    rw [List.foldl_append, ← h.now]; rfl
  · have := key k
    unfold St.at_ at this
    rw [this]
    split
    · exact h.nodup k
    · exact hn
  · have := key k
    unfold St.at_ at this
    rw [this] at hk
    split at hk
    · exact h.have_ k i hk
    · rcases ids_behind hk with ⟨rfl, hd⟩ | hk
      · exact hi hd
      · exact h.nowI hk
  · rcases List.mem_append.1 hd with hd | hd
    · exact h.names d hd
    · rw [List.mem_singleton.1 hd]; exact hs

theorem good_settled {s : St} (h : Good s) : Good s.settled :=
  ⟨rfl, h.nowR, fun k => by simpa [St.settled] using h.nowN, fun k i hi => by
    have : i ∈ ids s.now := by simpa [St.settled] using hi
    exact h.nowI this, h.sync, fun c hc => by simp [St.settled] at hc⟩

theorem mem_modify {l : List Nd} {i : Nat} {f : Nd → Nd} {d : Nd} (h : d ∈ l.modify i f) : d ∈ l ∨ ∃ e ∈ l, d = f e := by
  obtain ⟨j, hj⟩ := List.getElem?_of_mem h
  rw [List.getElem?_modify] at hj
  split at hj
  · obtain ⟨e, he, rfl⟩ := Option.map_eq_some_iff.1 hj
    exact .inr ⟨e, List.mem_of_getElem? he, rfl⟩
  · exact .inl (List.mem_of_getElem? (i := j) (by simpa using hj))

theorem good_setNd {s : St} (h : Good s) (i : Nat) (f : Nd → Nd) (hf : ∀ d, d.syn ≤ d.bytes.length → (f d).syn ≤ (f d).bytes.length) : Good (s.setNd i f) :=
  good_same h rfl rfl rfl (by simp [St.setNd]) fun d hd => by
    rcases mem_modify hd with hd | ⟨e, he, rfl⟩
    · exact h.sync d hd
    · exact hf e (h.sync e he)

theorem good_call {s : St} {names : List Nm} {has : Nm} {f : St → St × Int} (h : Good s) (hf : s.looked [] names = 0 → s.looked has [] = 0 → ∀ t, t = s.tried.1 → Good t → Good (f t).1) : Good (s.call names has f).1 := by
  unfold St.call
  split
  · exact h
  · rename_i h1
    split
    · exact h
    · rename_i h2
      split
      · exact good_tried h
      · exact hf (by simpa using h1) (by simpa using h2) _ rfl (good_tried h)

theorem looked_name {s : St} {names : List Nm} (h : s.looked [] names = 0) : ∀ n ∈ names, isName n = true := by
  unfold St.looked at h
  split at h
  · simp at h
  · split at h
    · simp at h
    · rename_i h1
      intro n hn
      cases e : isName n
      · exact absurd (List.any_eq_true.2 ⟨n, hn, by simp [e]⟩) h1
      · rfl
theorem looked_file {s : St} {n : Nm} (hn : n ≠ []) (h : s.looked n [] = 0) : ∃ i, find s.now n = some i := by
  unfold St.looked at h
  split at h
  · simp at h
  · split at h
    · simp at h
    · split at h
      · simp at h
      · rename_i h1
        cases e : find s.now n with
        | none => exact absurd ⟨hn, e⟩ h1
        | some i => exact ⟨i, rfl⟩
theorem isName_ne {n : Nm} (h : isName n = true) : n ≠ [] := by
  rintro rfl; simp [isName] at h

theorem nodup_put_new {l : Fo} (k : Nm) {i : Nat} (h : (ids l).Nodup) (hi : ∀ j ∈ ids l, j < i) : (ids (put l k i)).Nodup :=
  nodup_put k h fun hm => absurd (hi _ (ids_drop hm)) (Nat.lt_irrefl _)

/-- A file under another name stands under that one alone. -/
theorem not_in_drop {l : Fo} (hn : (ids l).Nodup) {n : Nm} {i : Nat} (h : find l n = some i) : i ∉ ids (drop l n) := by
  intro hm
  obtain ⟨⟨k, j⟩, hp, he⟩ := List.mem_map.1 hm
  obtain rfl : j = i := he
  obtain ⟨h1, h2⟩ := List.mem_filter.1 hp
  have h3 := mem_of_find h
  have hkn : k ≠ n := by simpa using h2
  obtain ⟨a, ha⟩ := List.getElem?_of_mem h1
  obtain ⟨b, hb⟩ := List.getElem?_of_mem h3
  have hab : a ≠ b := by rintro rfl; rw [ha] at hb; cases hb; exact hkn rfl
  have ea : (ids l)[a]? = some j := by simp [ids, ha]
  have eb : (ids l)[b]? = some j := by simp [ids, hb]
  obtain ⟨la, ea⟩ := List.getElem?_eq_some_iff.1 ea
  obtain ⟨lb, eb⟩ := List.getElem?_eq_some_iff.1 eb
  have hpw := List.pairwise_iff_getElem.1 hn
  rcases Nat.lt_or_gt_of_ne hab with hlt | hlt
  · exact hpw a b la lb hlt (ea.trans eb.symm)
  · exact hpw b a lb la hlt (eb.trans ea.symm)

theorem good_make {s : St} (h : Good s) (n : Nm) : Good (s.make n).1 := by
  refine good_call h fun h1 _ t _ ht => ?_
  have hne := isName_ne (looked_name h1 n (by simp))
  split
  · exact ht
  · have hg : Good { t with all := t.all ++ [⟨[], 0, false⟩] } := by
      refine good_same ht rfl rfl rfl (by simp) fun d hd => ?_
      rcases List.mem_append.1 hd with hd | hd
      · exact ht.sync d hd
      · rw [List.mem_singleton.1 hd]; exact Nat.le_refl 0
    refine good_more (good_changes hg _ ?_ (fun _ => by simp) (.inr hne))
    simp only [behind, if_true, if_neg hne]
    exact nodup_put_new n ht.nowN fun j hj => ht.nowI hj

theorem good_act {s : St} (h : Good s) (o : Do) : Good (s.act o).1 := by
  cases o with
  | make n => exact good_make h n
  | append n b => 
    refine good_call h fun h1 _ t _ ht => ?_
    split
    · exact ht
    · exact good_more (good_setNd ht _ _ fun d hd => by simp; omega)
  | sync n => exact good_call h fun h1 _ t _ ht => good_more (good_setNd ht _ _ fun d hd => Nat.le_refl _)
  | rename n m =>
    refine good_call h fun h1 h2 t et ht => good_more ?_
    split
    · exact ht
    · rename_i hnm
      have hn := isName_ne (looked_name h1 n (by simp))
      have hm := isName_ne (looked_name h1 m (by simp))
      obtain ⟨i, hi⟩ := looked_file hn h2
      have hnow : t.now = s.now := by rw [et]; exact (tried_kept s).2.2.2.1
      rw [← hnow] at hi
      rw [hi]
      have hil : i < t.all.length := ht.nowI (List.mem_map.2 ⟨(n, i), mem_of_find hi, rfl⟩)
      refine good_changes ht _ ?_ (fun _ => hil) (.inr hm)
      simp only [behind, if_neg hn, if_neg hm, Option.getD_some]
      refine nodup_put m (nodup_drop n ht.nowN) fun hc => not_in_drop ht.nowN hi (ids_drop hc)
  | remove n =>
    show Good (s.remove n).1
    unfold St.remove
    split
    · exact h
    · rename_i h1
      split
      · exact h
      · split
        · exact good_tried h
        · have hn := isName_ne (looked_name (by simpa using h1) n (by simp))
          refine good_more (good_changes (good_tried h) _ ?_ (fun h => absurd rfl h) (.inl hn))
          simp only [behind, if_neg hn, if_true]
          exact nodup_drop n (good_tried h).nowN
  | syncDir => exact good_call h fun _ _ t _ ht => good_more (good_settled ht)
  | read n => exact h
  | spoil n b =>
    show Good (s.spoil n b).1
    unfold St.spoil
    split
    · exact h
    · exact good_setNd h _ _ fun d hd => hd
  | plan l =>
    show Good (s.plan_ l).1
    unfold St.plan_
    split
    · exact ⟨h.now, h.old, h.nodup, h.have_, h.sync, h.names⟩
    · exact h
  | off => exact ⟨h.now, h.old, h.nodup, h.have_, h.sync, h.names⟩
  | none => exact h
  | start d k =>
    show Good (s.start d k)
    unfold St.start
    split
    · exact h
    · have hlen : ∀ (l : Fo) (i : Nat) (a : List Nd), (St.cuts k i l a).length = a.length := by
        intro l
        induction l with
        | nil => intro i a; rfl
        | cons p r ih => intro i a; unfold St.cuts; rw [ih]; simp
      have hsyn : ∀ (l : Fo) (i : Nat) (a : List Nd), (∀ d ∈ a, d.syn ≤ d.bytes.length) → ∀ d ∈ St.cuts k i l a, d.syn ≤ d.bytes.length := by
        intro l
        induction l with
        | nil => intro i a ha; exact ha
        | cons p r ih =>
          intro i a ha
          unfold St.cuts
          refine ih _ _ fun d hd => ?_
          rcases mem_modify hd with hd | ⟨e, he, rfl⟩
          · exact ha d hd
          · have := ha e he
            unfold St.cutNd
            simp only [List.length_take]
            split
            · omega
            · unfold St.left; omega
      exact ⟨rfl, h.rising _, fun j => by simpa using h.nodup (St.left d s.row.length), fun j i hi => by
        have hi : i ∈ ids ((s.row.take (St.left d s.row.length)).foldl behind s.old) := by simpa using hi
        rw [hlen]
        exact h.have_ _ i hi, hsyn _ _ _ h.sync, fun c hc => by simp at hc⟩

end Disk
end Go.Proofs.YtncpeogkccjmcaaGreatDoor
namespace Go.Proofs.YtncpeogkccjmcaaGreatDoor
namespace Disk

/-- What a call does to the folder and its changes. -/
def Still (s t : St) : Prop := t.row = s.row ∧ t.old = s.old ∧ t.now = s.now
def One (s t : St) : Prop := ∃ c, t.row = s.row ++ [c] ∧ t.old = s.old
def Set_ (s t : St) : Prop := t.row = [] ∧ t.old = s.now
def Step (s t : St) : Prop := (Still s t ∨ One s t ∨ Set_ s t) ∧ (s.on = true → t.on = false → Still s t)

theorem Step.still {s t : St} (h : Still s t) : Step s t := ⟨.inl h, fun _ _ => h⟩
theorem Step.of_on {s t : St} (h : One s t ∨ Set_ s t) (hon : t.on = s.on) : Step s t := ⟨.inr h, fun h1 h2 => by rw [hon, h1] at h2; cases h2⟩
theorem still_tried (s : St) : Still s s.tried.1 := by
  obtain ⟨h1, _, _, h4, h5, _⟩ := tried_kept s
  exact ⟨h1, h5, h4⟩
theorem tried_on {s : St} (h : s.tried.2 ≠ 24) : s.tried.1.on = s.on := (tried_kept s).2.2.2.2.2.2.1 h

theorem step_call {s : St} {names : List Nm} {has : Nm} {f : St → St × Int} (hf : ∀ t, (Still t (f t).1 ∨ One t (f t).1 ∨ Set_ t (f t).1) ∧ (f t).1.on = t.on) : Step s (s.call names has f).1 := by
  unfold St.call
  split
  · exact .still ⟨rfl, rfl, rfl⟩
  · split
    · exact .still ⟨rfl, rfl, rfl⟩
    · split
      · exact .still (still_tried s)
      · rename_i h0
        have h24 : s.tried.2 ≠ 24 := by
          intro e
          rw [e] at h0
          exact h0 (by decide)
        have hon := tried_on h24
        obtain ⟨a, b, c⟩ := still_tried s
        obtain ⟨h1, h2⟩ := hf s.tried.1
        rcases h1 with ⟨x, y, z⟩ | ⟨ch, x, y⟩ | ⟨x, y⟩
        · exact .still ⟨x.trans a, y.trans b, z.trans c⟩
        · exact .of_on (.inl ⟨ch, by rw [x, a], y.trans b⟩) (h2.trans hon)
        · exact .of_on (.inr ⟨x, y.trans c⟩) (h2.trans hon)

theorem act_step (s : St) (o : Do) (h1 : o ≠ .off) (h2 : ∀ d k, o ≠ .start d k) : Step s (s.act o).1 := by
  cases o with
  | make n =>
    refine step_call fun t => ?_
    split
    · exact ⟨.inl ⟨rfl, rfl, rfl⟩, rfl⟩
    · exact ⟨.inr (.inl ⟨_, rfl, rfl⟩), rfl⟩
  | append n b =>
    refine step_call fun t => ?_
    split
    · exact ⟨.inl ⟨rfl, rfl, rfl⟩, rfl⟩
    · exact ⟨.inl ⟨rfl, rfl, rfl⟩, rfl⟩
  | sync n => exact step_call fun t => ⟨.inl ⟨rfl, rfl, rfl⟩, rfl⟩
  | rename n m =>
    refine step_call fun t => ?_
    split
    · exact ⟨.inl ⟨rfl, rfl, rfl⟩, rfl⟩
    · exact ⟨.inr (.inl ⟨_, rfl, rfl⟩), rfl⟩
  | remove n =>
    show Step s (s.remove n).1
    unfold St.remove
    split
    · exact .still ⟨rfl, rfl, rfl⟩
    · split
      · exact .still ⟨rfl, rfl, rfl⟩
      · split
        · exact .still (still_tried s)
        · rename_i h0
          obtain ⟨a, b, c⟩ := still_tried s
          exact .of_on (.inl ⟨⟨n, [], 0⟩, by show s.tried.1.row ++ _ = _; rw [a], b⟩) (tried_on h0)
  | syncDir => exact step_call fun t => ⟨.inr (.inr ⟨rfl, rfl⟩), rfl⟩
  | read n => exact .still ⟨rfl, rfl, rfl⟩
  | spoil n b =>
    show Step s (s.spoil n b).1
    unfold St.spoil
    split
    · exact .still ⟨rfl, rfl, rfl⟩
    · exact .still ⟨rfl, rfl, rfl⟩
  | plan l =>
    show Step s (s.plan_ l).1
    unfold St.plan_
    split
    · exact .still ⟨rfl, rfl, rfl⟩
    · exact .still ⟨rfl, rfl, rfl⟩
  | off => exact absurd rfl h1
  | start d k => exact absurd rfl (h2 d k)
  | none => exact .still ⟨rfl, rfl, rfl⟩

/-- The names by how many changes were pending. -/
def St.rows (s : St) : List (List Nm) := (List.range (s.row.length + 1)).map fun k => keys (s.at_ k)

theorem rows_len (s : St) : s.rows.length = s.row.length + 1 := by simp [St.rows]
theorem rows_still {s t : St} (h : Still s t) : t.rows = s.rows := by
  obtain ⟨a, b, c⟩ := h
  unfold St.rows St.at_
  rw [a, b]
theorem rows_at {s : St} {k : Nat} (h : k ≤ s.row.length) : s.rows[k]? = some (keys (s.at_ k)) := by
  simp [St.rows, List.getElem?_range (show k < s.row.length + 1 by omega)]
/-- Behind a call that left the power on: the rows, one more laid where the changes end. -/
theorem rows_step {s t : St} (ht : Good t) (h : Step s t) : t.row.length ≤ s.rows.length ∧ s.rows.take t.row.length ++ [keys t.now] = t.rows := by
  have hlast : ∀ u : St, Good u → u.rows = (u.rows.take u.row.length) ++ [keys u.now] := fun u hu => by
    have e1 : u.rows = u.rows.take u.row.length ++ [keys (u.at_ u.row.length)] := by
      unfold St.rows
      rw [List.range_succ, List.map_append]
      simp
    rw [hu.at_all] at e1
    exact e1
  rw [hlast t ht, rows_len]
  rcases h.1 with h | ⟨c, h1, h2⟩ | ⟨h1, h2⟩
  · rw [rows_still h, h.1]
    exact ⟨by omega, by rw [h.2.2]⟩
  · have e : t.row.length = s.row.length + 1 := by rw [h1]; simp
    refine ⟨by omega, ?_⟩
    congr 1
    rw [e]
    unfold St.rows
    apply List.ext_getElem?
    intro k
    rw [List.getElem?_take, List.getElem?_take]
    split
    · rename_i hk
      simp only [List.getElem?_map, e, List.getElem?_range hk, List.getElem?_range (show k < s.row.length + 1 + 1 by omega), Option.map_some]
      unfold St.at_
      rw [h1, h2, List.take_append_of_le_length (by omega)]
    · rfl
  · rw [h1]
    exact ⟨by simp, by simp⟩

/-- .. and behind a loss of power, started again. -/
theorem names_start {s : St} (dir : Int) (keep : List Int) (hoff : s.on = false) : (s.start dir keep).on = true ∧ (s.start dir keep).row = [] ∧ some (s.start dir keep).names = s.rows[St.left dir s.row.length]? := by
  unfold St.start
  rw [hoff]
  refine ⟨rfl, rfl, ?_⟩
  rw [rows_at (by unfold St.left; omega)]
  rfl

/-! ### files -/
theorem cuts_len (keep : List Int) : ∀ (l : Fo) (i : Nat) (a : List Nd), (St.cuts keep i l a).length = a.length
  | [], _, _ => rfl
  | p :: r, i, a => by unfold St.cuts; rw [cuts_len keep r]; simp
theorem cuts_other (keep : List Int) : ∀ (l : Fo) (i : Nat) (a : List Nd) (j : Nat), j ∉ ids l → (St.cuts keep i l a)[j]? = a[j]?
  | [], _, _, _, _ => rfl
  | p :: r, i, a, j, h => by
    have h' : j ≠ p.2 ∧ j ∉ ids r := by simpa [ids] using h
    unfold St.cuts
    rw [cuts_other keep r _ _ j h'.2, List.getElem?_modify]
    simp [show p.2 ≠ j from fun e => h'.1 e.symm]
theorem cuts_at (keep : List Int) : ∀ (l : Fo) (i : Nat) (a : List Nd), (ids l).Nodup → ∀ (m : Nat) (p : Nm × Nat), l[m]? = some p → (St.cuts keep i l a)[p.2]? = a[p.2]?.map fun d => St.cutNd d keep[i + m]?
  | [], _, _, _, _, _, h => by simp at h
  | q :: r, i, a, hn, m, p, h => by
    have hn' : q.2 ∉ ids r ∧ (ids r).Nodup := by simpa [ids] using hn
    unfold St.cuts
    cases m with
    | zero =>
      obtain rfl : q = p := by simpa using h
      rw [cuts_other keep r _ _ _ hn'.1, List.getElem?_modify]
      simp
    | succ m =>
      have h : r[m]? = some p := by simpa using h
      have hp : p.2 ∈ ids r := List.mem_map.2 ⟨p, List.mem_of_getElem? h, rfl⟩
      have hne : q.2 ≠ p.2 := fun e => hn'.1 (e ▸ hp)
      rw [cuts_at keep r (i + 1) _ hn'.2 m p h, List.getElem?_modify]
      rw [show i + 1 + m = i + (m + 1) by omega]
      simp [hne]

theorem files_len {s : St} (h : s.on = true) : s.files.length = s.now.length := by unfold St.files; rw [if_pos h]; simp
theorem files_at {s : St} (hg : Good s) (h : s.on = true) (m : Nat) : s.files[m]? = s.now[m]?.bind fun p => s.all[p.2]?.map fun d => (p.1, d) := by
  unfold St.files
  rw [if_pos h, List.getElem?_map]
  cases e : s.now[m]? with
  | none => rfl
  | some p =>
    have hp := hg.nowI (List.mem_map.2 ⟨p, List.mem_of_getElem? e, rfl⟩)
    simp [List.getElem?_eq_getElem hp]

/-- Where nothing is pending: every file, cut where it is said. -/
theorem files_start {s t : St} (hg : Good s) (hon : s.on = true) (hr : s.row = []) (dir : Int) (keep : List Int) (ht : t = s.off.start dir keep) :
    t.on = true ∧ t.row = [] ∧ ∀ m : Nat, t.files[m]? = s.files[m]?.map fun (f : Nm × Nd) => (f.1, St.cutNd f.2 keep[m]?) := by
  have hg' : Good t := by rw [ht]; exact good_act (good_act hg .off) (.start dir keep)
  have hold : s.old = s.now := by have := hg.now; rw [hr] at this; exact this.symm
  have e0 : t = { s.off with now := s.now, old := s.now, row := [], on := true, all := St.cuts keep 0 s.now s.all } := by
    rw [ht]
    unfold St.start
    rw [if_neg (by simp [St.off])]
    simp [St.off, hr, hold]
  have hon' : t.on = true := by rw [e0]
  refine ⟨hon', by rw [e0], fun m => ?_⟩
  rw [files_at hg' hon', files_at hg hon]
  have e1 : t.now = s.now := by rw [e0]
  have e2 : t.all = St.cuts keep 0 s.now s.all := by rw [e0]
  rw [e1, e2]
  cases e : s.now[m]? with
  | none => rfl
  | some p =>
    simp only [Option.bind_some]
    rw [cuts_at keep s.now 0 s.all hg.nowN m p e, Nat.zero_add]
    simp [Option.map_map, Function.comp_def]

theorem cut_again (d : Nd) (k : Option Int) : St.cutNd (St.cutNd d k) none = St.cutNd d k := by
  unfold St.cutNd
  simp [List.take_take]

end Disk
end Go.Proofs.YtncpeogkccjmcaaGreatDoor
namespace Go.Proofs.YtncpeogkccjmcaaGreatDoor
namespace Disk

/-- What every disk is, with its bounds. -/
structure Fine (s : St) : Prop where
  good : Good s
  rowI : ∀ c ∈ s.row, c.dst ≠ [] → c.id < s.all.length
  cap : ∀ k, (s.at_ k).length ≤ 64
  big : ∀ d ∈ s.all, d.bytes.length ≤ 16777216
  room : 0 ≤ s.room ∧ s.room ≤ 16777216

theorem Fine.nowL {s : St} (h : Fine s) : s.now.length ≤ 64 := by rw [← h.good.at_all]; exact h.cap _
theorem Fine.oldL {s : St} (h : Fine s) : s.old.length ≤ 64 := h.cap 0
theorem Fine.nowI {s : St} (h : Fine s) : ∀ i ∈ ids s.now, i < s.all.length := fun _ hi => h.good.nowI hi
theorem Fine.oldI {s : St} (h : Fine s) : ∀ i ∈ ids s.old, i < s.all.length := fun i hi => h.good.have_ 0 i (by simpa using hi)

theorem fine_same {s t : St} (h : Fine s) (hg : Good t) (h1 : t.row = s.row) (h3 : t.old = s.old) (h4 : s.all.length ≤ t.all.length) (h5 : ∀ d ∈ t.all, d.bytes.length ≤ 16777216) (h6 : t.room = s.room) : Fine t :=
  ⟨hg, by rw [h1]; exact fun c hc hd => Nat.lt_of_lt_of_le (h.rowI c hc hd) h4, by unfold St.at_; rw [h1, h3]; exact h.cap, h5, by rw [h6]; exact h.room⟩
theorem fine_tried {s : St} (h : Fine s) : Fine s.tried.1 := by
  obtain ⟨h1, h2, h3, h4, h5, h6, h7, h8⟩ := tried_kept s
  exact fine_same h (good_tried h.good) h1 h5 (by rw [h3]; exact Nat.le_refl _) (by rw [h3]; exact h.big) h6
theorem fine_more {s : St} (h : Fine s) : Fine s.more := fine_same h (good_more h.good) rfl rfl (Nat.le_refl _) h.big rfl
theorem fine_changes {s : St} (h : Fine s) (c : Chg) (hg : Good (s.changes c)) (hi : c.dst ≠ [] → c.id < s.all.length) (hl : (behind s.now c).length ≤ 64) : Fine (s.changes c) := by
  refine ⟨hg, fun d hd => ?_, fun k => ?_, h.big, h.room⟩
  · rcases List.mem_append.1 hd with hd | hd
    · exact h.rowI d hd
    · rw [List.mem_singleton.1 hd]; exact hi
  · rw [at_changes]
    split
    · exact h.cap k
    · rw [h.good.at_all]; exact hl
theorem fine_settled {s : St} (h : Fine s) : Fine s.settled :=
  ⟨good_settled h.good, fun c hc => by simp [St.settled] at hc, fun k => by simpa [St.at_, St.settled] using h.nowL, h.big, h.room⟩
theorem fine_setNd {s : St} (h : Fine s) (i : Nat) (f : Nd → Nd) (hg : Good (s.setNd i f)) (hf : ∀ d, s.all[i]? = some d → d.bytes.length ≤ 16777216 → (f d).bytes.length ≤ 16777216) : Fine (s.setNd i f) := by
  refine fine_same h hg rfl rfl (by simp [St.setNd]) (fun d hd => ?_) rfl
  obtain ⟨j, hj⟩ := List.getElem?_of_mem hd
  simp only [St.setNd] at hj
  rw [List.getElem?_modify] at hj
  split at hj
  · rename_i hij
    subst hij
    obtain ⟨e, he, rfl⟩ := Option.map_eq_some_iff.1 hj
    exact hf e he (h.big e (List.mem_of_getElem? he))
  · exact h.big d (List.mem_of_getElem? (i := j) (by simpa using hj))

theorem fine_call {s : St} {names : List Nm} {has : Nm} {f : St → St × Int} (h : Fine s) (hf : s.looked [] names = 0 → s.looked has [] = 0 → ∀ t, t = s.tried.1 → Fine t → Fine (f t).1) : Fine (s.call names has f).1 := by
  unfold St.call
  split
  · exact h
  · rename_i h1
    split
    · exact h
    · rename_i h2
      split
      · exact fine_tried h
      · exact hf (by simpa using h1) (by simpa using h2) _ rfl (fine_tried h)

/-- A file of the folder is among the folder's bytes. -/
theorem size_mem {s : St} {l : Fo} {n : Nm} {i : Nat} {d : Nd} (h : find l n = some i) (hd : s.all[i]? = some d) : d.bytes.length ≤ s.size l := by
  have hm := mem_of_find h
  have : d.bytes.length ∈ l.map fun p => (s.all[p.2]?.map (·.bytes.length)).getD 0 := List.mem_map.2 ⟨(n, i), hm, by simp [hd]⟩
  unfold St.size
  obtain ⟨a, b, e⟩ := List.append_of_mem this
  rw [e]
  simp only [List.sum_append, List.sum_cons]
  omega

theorem len_behind {l : Fo} (hr : Rising l) {n m : Nm} {i : Nat} (hn : n ≠ []) (hf : find l n = some i) (j : Nat) : (behind l ⟨n, m, j⟩).length ≤ l.length := by
  have h1 := len_drop hr n
  rw [hf] at h1
  simp only [behind, if_neg hn]
  split
  · simp at h1; omega
  · rw [len_put (hr.drop n)]
    simp at h1
    split <;> omega

theorem fine_new {s : St} (h : Fine s) : Fine { s with all := s.all ++ [⟨[], 0, false⟩] } := by
  refine fine_same h (good_same h.good rfl rfl rfl (by simp) fun d hd => ?_) rfl rfl (by simp) (fun d hd => ?_) rfl
  · rcases List.mem_append.1 hd with hd | hd
    · exact h.good.sync d hd
    · rw [List.mem_singleton.1 hd]; exact Nat.le_refl 0
  · rcases List.mem_append.1 hd with hd | hd
    · exact h.big d hd
    · rw [List.mem_singleton.1 hd]; simp

theorem fine_act {s : St} (h : Fine s) (o : Do) : Fine (s.act o).1 := by
  have hga := good_act h.good o
  cases o with
  | make n =>
    refine fine_call h fun h1 _ t et ht => ?_
    have hne := isName_ne (looked_name h1 n (by simp))
    split
    · exact ht
    · rename_i hfull
      have hg : Good (({ t with all := t.all ++ [⟨[], 0, false⟩] } : St).changes ⟨[], n, t.all.length⟩) := by
        refine good_changes (fine_new ht).good _ ?_ (fun _ => by simp) (.inr hne)
        simp only [behind, if_true, if_neg hne]
        exact nodup_put_new n ht.good.nowN fun j hj => ht.good.nowI hj
      refine fine_more (fine_changes (fine_new ht) _ hg (fun _ => by simp) ?_)
      simp only [behind, if_true, if_neg hne]
      have hl := ht.nowL
      rw [len_put ht.good.nowR]
      split
      · exact hl
      · rename_i hfn
        have : find t.now n = none := by cases e : find t.now n <;> simp_all
        have : ¬ 64 ≤ t.now.length := fun h => hfull ⟨this, h⟩
        omega
  | append n b =>
    refine fine_call h fun h1 h2 t et ht => ?_
    split
    · exact ht
    · rename_i hfull
      have hn := isName_ne (looked_name h1 n (by simp))
      obtain ⟨i, hi⟩ := looked_file hn h2
      have hnow : t.now = s.now := by rw [et]; exact (tried_kept s).2.2.2.1
      rw [← hnow] at hi
      refine fine_more (fine_setNd ht _ _ (good_setNd ht.good _ _ fun d hd => by simp; omega) fun d hd hb => ?_)
      rw [hi] at hd
      have := size_mem hi hd
      have hr := ht.room
      simp only [List.length_append]
      by_cases h0 : 0 < b.length
      · have : ¬ t.room - t.size t.now < b.length := fun h => hfull ⟨h0, h⟩
        omega
      · omega
  | sync n => exact fine_call h fun _ _ t _ ht => fine_more (fine_setNd ht _ _ (good_setNd ht.good _ _ fun d hd => Nat.le_refl _) fun d _ hd => hd)
  | rename n m =>
    refine fine_call h fun h1 h2 t et ht => fine_more ?_
    split
    · exact ht
    · rename_i hnm
      have hn := isName_ne (looked_name h1 n (by simp))
      have hm := isName_ne (looked_name h1 m (by simp))
      obtain ⟨i, hi⟩ := looked_file hn h2
      have hnow : t.now = s.now := by rw [et]; exact (tried_kept s).2.2.2.1
      rw [← hnow] at hi
      rw [hi]
      have hil : i < t.all.length := ht.nowI _ (List.mem_map.2 ⟨(n, i), mem_of_find hi, rfl⟩)
      refine fine_changes ht _ (good_changes ht.good _ ?_ (fun _ => hil) (.inr hm)) (fun _ => hil) (Nat.le_trans (len_behind ht.good.nowR hn hi _) ht.nowL)
      simp only [behind, if_neg hn, if_neg hm, Option.getD_some]
      exact nodup_put m (nodup_drop n ht.good.nowN) fun hc => not_in_drop ht.good.nowN hi (ids_drop hc)
  | remove n =>
    show Fine (s.remove n).1
    unfold St.remove
    split
    · exact h
    · rename_i h1
      split
      · exact h
      · rename_i h2
        split
        · exact fine_tried h
        · have hn := isName_ne (looked_name (by simpa using h1) n (by simp))
          obtain ⟨i, hi⟩ := looked_file hn (by simpa using h2)
          have ht := fine_tried h
          have hnow : s.tried.1.now = s.now := (tried_kept s).2.2.2.1
          rw [← hnow] at hi
          refine fine_more (fine_changes ht _ (good_changes ht.good _ ?_ (fun h => absurd rfl h) (.inl hn)) (fun h => absurd rfl h) (Nat.le_trans (len_behind ht.good.nowR hn hi _) ht.nowL))
          simp only [behind, if_neg hn, if_true]
          exact nodup_drop n ht.good.nowN
  | syncDir => exact fine_call h fun _ _ t _ ht => fine_more (fine_settled ht)
  | read n => exact h
  | spoil n b =>
    change Good (s.spoil n b).1 at hga
    show Fine (s.spoil n b).1
    unfold St.spoil at hga ⊢
    split
    · exact h
    · rename_i h1
      rw [if_neg h1] at hga
      exact fine_setNd h _ _ hga fun d _ hd => hd
  | plan l =>
    change Good (s.plan_ l).1 at hga
    show Fine (s.plan_ l).1
    unfold St.plan_ at hga ⊢
    split
    · rename_i h1
      rw [if_pos h1] at hga
      exact fine_same h hga rfl rfl (Nat.le_refl _) h.big rfl
    · exact h
  | off => exact fine_same h hga rfl rfl (Nat.le_refl _) h.big rfl
  | none => exact h
  | start d k =>
    change Good (s.start d k) at hga
    show Fine (s.start d k)
    unfold St.start at hga ⊢
    split
    · exact h
    · rename_i h1
      rw [if_neg h1] at hga
      have hlen : ∀ (l : Fo) (i : Nat) (a : List Nd), (∀ d ∈ a, d.bytes.length ≤ 16777216) → ∀ d ∈ St.cuts k i l a, d.bytes.length ≤ 16777216 := by
        intro l
        induction l with
        | nil => intro i a ha; exact ha
        | cons p r ih =>
          intro i a ha
          unfold St.cuts
          refine ih _ _ fun d hd => ?_
          rcases mem_modify hd with hd | ⟨e, he, rfl⟩
          · exact ha d hd
          · have := ha e he
            unfold St.cutNd
            simp only [List.length_take]
            omega
      exact ⟨hga, fun c hc => by simp at hc, fun j => by simpa [St.at_] using h.cap (St.left d s.row.length), hlen _ _ _ h.big, h.room⟩

end Disk
end Go.Proofs.YtncpeogkccjmcaaGreatDoor
namespace Go.Proofs.YtncpeogkccjmcaaGreatDoor
namespace Disk

/-- "file", "new". -/
def nF : Nm := [102, 105, 108, 101]
def nN : Nm := [110, 101, 119]

/-- How far it is. -/
inductive Stage
  | a
  | b (c : List UInt8)
  | y (c : List UInt8)
  | d (c : List UInt8)
  | e (c : List UInt8)

def Stage.is (O : List UInt8) : Stage → St → Prop
  | .a, s => s.all = [⟨O, O.length, false⟩] ∧ s.now = [(nF, 0)] ∧ s.old = [(nF, 0)] ∧ s.row = []
  | .b c, s => s.all = [⟨O, O.length, false⟩, ⟨c, 0, false⟩] ∧ s.now = [(nF, 0), (nN, 1)] ∧ s.old = [(nF, 0)] ∧ s.row = [⟨[], nN, 1⟩]
  | .y c, s => s.all = [⟨O, O.length, false⟩, ⟨c, c.length, false⟩] ∧ s.now = [(nF, 0), (nN, 1)] ∧ s.old = [(nF, 0)] ∧ s.row = [⟨[], nN, 1⟩]
  | .d c, s => s.all = [⟨O, O.length, false⟩, ⟨c, c.length, false⟩] ∧ s.now = [(nF, 1)] ∧ s.old = [(nF, 0)] ∧ s.row = [⟨[], nN, 1⟩, ⟨nN, nF, 1⟩]
  | .e c, s => s.all = [⟨O, O.length, false⟩, ⟨c, c.length, false⟩] ∧ s.now = [(nF, 1)] ∧ s.old = [(nF, 1)] ∧ s.row = []

theorem Stage.same {O : List UInt8} {g : Stage} {s t : St} (h : g.is O s) (h1 : t.all = s.all) (h2 : t.now = s.now) (h3 : t.old = s.old) (h4 : t.row = s.row) : g.is O t := by
  cases g <;> simp only [Stage.is] at h ⊢ <;> rw [h1, h2, h3, h4] <;> exact h
theorem Stage.tried {O : List UInt8} {g : Stage} {s : St} (h : g.is O s) : g.is O s.tried.1 := by
  obtain ⟨h1, h2, h3, h4, h5, h6, h7, h8⟩ := tried_kept s
  exact Stage.same h h3 h4 h5 h1

theorem call_go {s : St} {names : List Nm} {has : Nm} {f : St → St × Int} (h1 : s.looked [] names = 0) (h2 : s.looked has [] = 0) : s.call names has f = if s.tried.2 ≠ 0 then s.tried else f s.tried.1 := by
  unfold St.call
  rw [h1, h2]
  simp
theorem looked_on {s : St} {names : List Nm} (h : s.on = true) (hn : ∀ n ∈ names, isName n = true) : s.looked [] names = 0 := by
  unfold St.looked
  have : names.any (fun n => !isName n) = false := by
    rw [List.any_eq_false]
    intro n hm
    simp [hn n hm]
  simp [h, this]
theorem looked_has {s : St} {n : Nm} {i : Nat} (h : s.on = true) (hn : find s.now n = some i) : s.looked n [] = 0 := by
  unfold St.looked
  simp [h, hn]

/-- A call of the row, done or cut short. -/
def Next (O : List UInt8) (g : Stage) (s : St) (r : St × Int) : Prop :=
  (s.tried.2 ≠ 0 ∧ r = s.tried) ∨ (s.tried.2 = 0 ∧ r.2 = 0 ∧ g.is O r.1 ∧ r.1.on = true ∧ r.1.room = s.room ∧ r.1.tries = s.tries + 1 ∧ r.1.plan = s.plan)
theorem tried_tries (s : St) : s.tried.1.tries = s.tries + 1 ∧ s.tried.1.plan = s.plan := by
  unfold St.tried
  split <;> exact ⟨rfl, rfl⟩

section
variable {O : List UInt8} {s : St}
theorem tried_all (h0 : s.tried.2 = 0) (hon : s.on = true) : s.tried.1.on = true ∧ s.tried.1.room = s.room ∧ s.tried.1.tries = s.tries + 1 ∧ s.tried.1.plan = s.plan := by
  obtain ⟨h1, h2, h3, h4, h5, h6, h7, h8⟩ := tried_kept s
  exact ⟨(h7 (by rw [h0]; decide)).trans hon, h6, (tried_tries s).1, (tried_tries s).2⟩
theorem swap_make (h : Stage.a.is O s) (hon : s.on = true) : Next O (.b []) s (s.make nN) := by
  unfold St.make
  rw [call_go (looked_on hon (by decide)) (looked_on hon (by decide))]
  split
  · rename_i h0; exact .inl ⟨h0, rfl⟩
  · rename_i h0
    have h0 : s.tried.2 = 0 := by simpa using h0
    obtain ⟨a, b, c, d⟩ := tried_all h0 hon
    obtain ⟨e1, e2, e3, e4⟩ := Stage.tried h
    rw [if_neg (by rw [e2]; simp)]
    refine .inr ⟨h0, rfl, ⟨?_, ?_, ?_, ?_⟩, a, b, c, d⟩
    · simp [St.more, St.changes, e1]
    · simp [St.more, St.changes, e1, e2]; rfl
    · simp [St.more, St.changes, e3]
    · simp [St.more, St.changes, e1, e4]
theorem swap_append {c x : List UInt8} (h : (Stage.b c).is O s) (hon : s.on = true) (hr : (O.length + c.length + x.length : Int) ≤ s.room) : Next O (.b (c ++ x)) s (s.append nN x) := by
  unfold St.append
  rw [call_go (looked_on hon (by decide)) (looked_has hon (i := 1) (by rw [h.2.1]; rfl))]
  split
  · rename_i h0; exact .inl ⟨h0, rfl⟩
  · rename_i h0
    have h0 : s.tried.2 = 0 := by simpa using h0
    obtain ⟨a, b, ct, d⟩ := tried_all h0 hon
    obtain ⟨e1, e2, e3, e4⟩ := Stage.tried h
    have hs : s.tried.1.size s.tried.1.now = O.length + c.length := by
      unfold St.size; rw [e1, e2]; simp
    rw [if_neg (by rw [hs, b]; omega)]
    refine .inr ⟨h0, rfl, ⟨?_, ?_, ?_, ?_⟩, a, b, ct, d⟩
    · have : find s.tried.1.now nN = some 1 := by rw [e2]; rfl
      simp [St.more, St.setNd, this, e1]
    · exact e2
    · exact e3
    · exact e4
theorem swap_sync {c : List UInt8} (h : (Stage.b c).is O s) (hon : s.on = true) : Next O (.y c) s (s.sync nN) := by
  unfold St.sync
  rw [call_go (looked_on hon (by decide)) (looked_has hon (i := 1) (by rw [h.2.1]; rfl))]
  split
  · rename_i h0; exact .inl ⟨h0, rfl⟩
  · rename_i h0
    have h0 : s.tried.2 = 0 := by simpa using h0
    obtain ⟨a, b, ct, d⟩ := tried_all h0 hon
    obtain ⟨e1, e2, e3, e4⟩ := Stage.tried h
    refine .inr ⟨h0, rfl, ⟨?_, ?_, ?_, ?_⟩, a, b, ct, d⟩
    · have : find s.tried.1.now nN = some 1 := by rw [e2]; rfl
      simp [St.more, St.setNd, this, e1]
    · exact e2
    · exact e3
    · exact e4
theorem swap_rename {c : List UInt8} (h : (Stage.y c).is O s) (hon : s.on = true) : Next O (.d c) s (s.rename nN nF) := by
  unfold St.rename
  rw [call_go (looked_on hon (by decide)) (looked_has hon (i := 1) (by rw [h.2.1]; rfl))]
  split
  · rename_i h0; exact .inl ⟨h0, rfl⟩
  · rename_i h0
    have h0 : s.tried.2 = 0 := by simpa using h0
    obtain ⟨a, b, ct, d⟩ := tried_all h0 hon
    obtain ⟨e1, e2, e3, e4⟩ := Stage.tried h
    have hf : find s.tried.1.now nN = some 1 := by rw [e2]; rfl
    rw [if_neg (by decide)]
    refine .inr ⟨h0, rfl, ⟨?_, ?_, ?_, ?_⟩, a, b, ct, d⟩
    · exact e1
    · simp [St.more, St.changes, e2]; rfl
    · exact e3
    · simp [St.more, St.changes, hf, e4]
theorem swap_dir {c : List UInt8} (h : (Stage.d c).is O s) (hon : s.on = true) : Next O (.e c) s s.syncDir := by
  unfold St.syncDir
  rw [call_go (looked_on hon (by decide)) (looked_on hon (by decide))]
  split
  · rename_i h0; exact .inl ⟨h0, rfl⟩
  · rename_i h0
    have h0 : s.tried.2 = 0 := by simpa using h0
    obtain ⟨a, b, ct, d⟩ := tried_all h0 hon
    obtain ⟨e1, e2, e3, e4⟩ := Stage.tried h
    exact .inr ⟨h0, rfl, ⟨e1, e2, e2, rfl⟩, a, b, ct, d⟩

/-- What is left: the old bytes or the new ones, and which names. -/
def Ends (O c : List UInt8) (dirDone : Bool) (s : St) : Prop :=
  ∃ b, s.read nF = (b, 0) ∧ (s.names = [nF] ∧ (b = O ∧ dirDone = false ∨ b = c) ∨ s.names = [nF, nN] ∧ b = O ∧ dirDone = false)
end

theorem left_cases (n : Int) (m : Nat) : ∃ k, St.left n m = k ∧ k ≤ m := ⟨_, rfl, by unfold St.left; omega⟩
theorem cut_whole (b : List UInt8) (bad : Bool) (k : Option Int) : St.cutNd ⟨b, b.length, bad⟩ k = ⟨b, b.length, bad⟩ := by
  unfold St.cutNd
  cases k <;> simp [St.left]

theorem read_at {s : St} {n : Nm} {i : Nat} {d : Nd} (hon : s.on = true) (hn : isName n = true) (h : find s.now n = some i) (hd : s.all[i]? = some d) (hb : d.bad = false) : s.read n = (d.bytes, 0) := by
  unfold St.read St.there
  rw [looked_on hon (by simpa using hn), looked_has hon h]
  simp [St.file, h, hd, hb]

theorem swap_end {O c : List UInt8} {g : Stage} {s : St} (h : g.is O s) (hoff : s.on = false) (dir : Int) (keep : List Int) (hc : ∀ c', g = .d c' ∨ g = .e c' → c' = c) :
    Ends O c (match g with | .e _ => true | _ => false) (s.start dir keep) := by
  have hst : s.start dir keep = { s with now := (s.row.take (St.left dir s.row.length)).foldl behind s.old, old := (s.row.take (St.left dir s.row.length)).foldl behind s.old, row := [], on := true, all := St.cuts keep 0 ((s.row.take (St.left dir s.row.length)).foldl behind s.old) s.all } := by
    unfold St.start; simp [hoff]
  generalize hS : s.start dir keep = S at hst ⊢
  have hon : S.on = true := by rw [hst]
  have h1 : S.now = (s.row.take (St.left dir s.row.length)).foldl behind s.old := by rw [hst]
  have h2 : S.all = St.cuts keep 0 S.now s.all := by rw [h1, hst]
  have hnames : S.names = keys S.now := by unfold St.names; rw [if_pos hon]
  obtain ⟨k, hk, hkm⟩ := left_cases dir s.row.length
  rw [hk] at h1
  clear hst hS hk
  have fin0 : ∀ (d1 : List Nd), s.all = ⟨O, O.length, false⟩ :: d1 → S.now = [(nF, 0)] → (∃ b, S.read nF = (b, 0) ∧ S.names = [nF] ∧ b = O) := fun d1 ha hn => by
    refine ⟨O, read_at hon (by decide) (by rw [hn]; rfl) (d := ⟨O, O.length, false⟩) ?_ rfl, by rw [hnames, hn]; rfl, rfl⟩
    rw [h2, hn, ha]; simp [St.cuts, cut_whole]
  have fin1 : ∀ (d1 : Nd), s.all = [⟨O, O.length, false⟩, d1] → S.now = [(nF, 0), (nN, 1)] → (∃ b, S.read nF = (b, 0) ∧ S.names = [nF, nN] ∧ b = O) := fun d1 ha hn => by
    refine ⟨O, read_at hon (by decide) (by rw [hn]; rfl) (d := ⟨O, O.length, false⟩) ?_ rfl, by rw [hnames, hn]; rfl, rfl⟩
    rw [h2, hn, ha]; simp [St.cuts, cut_whole]
  have fin2 : ∀ c', s.all = [⟨O, O.length, false⟩, ⟨c', c'.length, false⟩] → S.now = [(nF, 1)] → (∃ b, S.read nF = (b, 0) ∧ S.names = [nF] ∧ b = c') := fun c' ha hn => by
    refine ⟨c', read_at hon (by decide) (by rw [hn]; rfl) (d := ⟨c', c'.length, false⟩) ?_ rfl, by rw [hnames, hn]; rfl, rfl⟩
    rw [h2, hn, ha]; simp [St.cuts, cut_whole]
  cases g with
  | a =>
    obtain ⟨e1, e2, e3, e4⟩ := h
    obtain ⟨b, x, y, z⟩ := fin0 [] e1 (by rw [h1, e4, e3]; simp)
    exact ⟨b, x, .inl ⟨y, .inl ⟨z, rfl⟩⟩⟩
  | b c' =>
    obtain ⟨e1, e2, e3, e4⟩ := h
    rw [e4] at hkm
    match k, hkm with
    | 0, _ =>
      obtain ⟨b, x, y, z⟩ := fin0 _ e1 (by rw [h1, e4, e3]; rfl)
      exact ⟨b, x, .inl ⟨y, .inl ⟨z, rfl⟩⟩⟩
    | 1, _ =>
      obtain ⟨b, x, y, z⟩ := fin1 _ e1 (by rw [h1, e4, e3]; rfl)
      exact ⟨b, x, .inr ⟨y, z, rfl⟩⟩
  | y c' =>
    obtain ⟨e1, e2, e3, e4⟩ := h
    rw [e4] at hkm
    match k, hkm with
    | 0, _ =>
      obtain ⟨b, x, y, z⟩ := fin0 _ e1 (by rw [h1, e4, e3]; rfl)
      exact ⟨b, x, .inl ⟨y, .inl ⟨z, rfl⟩⟩⟩
    | 1, _ =>
      obtain ⟨b, x, y, z⟩ := fin1 _ e1 (by rw [h1, e4, e3]; rfl)
      exact ⟨b, x, .inr ⟨y, z, rfl⟩⟩
  | d c' =>
    obtain rfl := hc c' (.inl rfl)
    obtain ⟨e1, e2, e3, e4⟩ := h
    rw [e4] at hkm
    match k, hkm with
    | 0, _ =>
      obtain ⟨b, x, y, z⟩ := fin0 _ e1 (by rw [h1, e4, e3]; rfl)
      exact ⟨b, x, .inl ⟨y, .inl ⟨z, rfl⟩⟩⟩
    | 1, _ =>
      obtain ⟨b, x, y, z⟩ := fin1 _ e1 (by rw [h1, e4, e3]; rfl)
      exact ⟨b, x, .inr ⟨y, z, rfl⟩⟩
    | 2, _ =>
      obtain ⟨b, x, y, z⟩ := fin2 _ e1 (by rw [h1, e4, e3]; rfl)
      exact ⟨b, x, .inl ⟨y, .inr z⟩⟩
  | e c' =>
    obtain rfl := hc c' (.inr rfl)
    obtain ⟨e1, e2, e3, e4⟩ := h
    obtain ⟨b, x, y, z⟩ := fin2 _ e1 (by rw [h1, e4, e3]; simp)
    exact ⟨b, x, .inl ⟨y, .inr z⟩⟩

end Disk
end Go.Proofs.YtncpeogkccjmcaaGreatDoor
namespace Go.Proofs.YtncpeogkccjmcaaGreatDoor
namespace Disk

/-- A file as it is handed in. -/
structure Fin_ where
  name : Nm
  bytes : List UInt8
  syn : Int
  bad : Bool
def Fin_.nd (f : Fin_) : Nd := ⟨f.bytes, f.syn.toNat, f.bad⟩
def nowGo : Nat → Fo → List Fin_ → Fo
  | _, l, [] => l
  | i, l, f :: r => nowGo (i + 1) (put l f.name i) r
/-- The folder of these files. -/
def nowOf (fs : List Fin_) : Fo := nowGo 0 [] fs
theorem nowGo_snoc (f : Fin_) : ∀ (fs : List Fin_) (i : Nat) (l : Fo), nowGo i l (fs ++ [f]) = put (nowGo i l fs) f.name (i + fs.length)
  | [], i, l => rfl
  | g :: fs, i, l => by
    rw [List.cons_append, nowGo, nowGo_snoc f fs, nowGo, List.length_cons]
    congr 1; omega
theorem nowOf_snoc (fs : List Fin_) (f : Fin_) : nowOf (fs ++ [f]) = put (nowOf fs) f.name fs.length := by
  unfold nowOf; rw [nowGo_snoc, Nat.zero_add]
/-- May it be taken behind these? -/
def okF (fs : List Fin_) (f : Fin_) : Bool := isName f.name && decide (0 ≤ f.syn) && decide (f.syn ≤ f.bytes.length) && !fs.any fun g => g.name == f.name
def okGo : List Fin_ → List Fin_ → Bool
  | _, [] => true
  | a, f :: r => okF a f && okGo (a ++ [f]) r
def allOk (fs : List Fin_) : Bool := okGo [] fs
theorem okGo_append (b : List Fin_) : ∀ a c, okGo a (c ++ b) = (okGo a c && okGo (a ++ c) b)
  | a, [] => by simp [okGo]
  | a, f :: c => by
    rw [List.cons_append, okGo, okGo_append b (a ++ [f]) c, okGo, Bool.and_assoc, List.append_assoc]
    rfl
def total (fs : List Fin_) : Nat := (fs.map (·.bytes.length)).sum
/-- What there is to say against it. -/
def fromErr (room : Int) (fs : List Fin_) : Int := if room < 0 ∨ 16777216 < room ∨ 64 < fs.length then 1 else if allOk fs = false then 1 else if room < total fs then 22 else 0
/-- The disk. -/
def fromSt (room : Int) (fs : List Fin_) : St := ⟨room, true, fs.map Fin_.nd, nowOf fs, nowOf fs, [], [], 0, 0⟩

theorem rising_nowOf (fs : List Fin_) : Rising (nowOf fs) := by
  unfold nowOf
  suffices H : ∀ (fs : List Fin_) i l, Rising l → Rising (nowGo i l fs) from H fs 0 [] List.Pairwise.nil
  intro fs
  induction fs with
  | nil => exact fun _ _ h => h
  | cons f r ih => exact fun i l h => ih _ _ (h.put _ _)
theorem allOk_take {fs : List Fin_} (h : allOk fs = true) (j : Nat) : allOk (fs.take j) = true := by
  rw [← List.take_append_drop j fs] at h
  unfold allOk at h ⊢
  rw [okGo_append, Bool.and_eq_true] at h
  exact h.1
theorem allOk_at {fs : List Fin_} (h : allOk fs = true) {j : Nat} (hj : j < fs.length) : okF (fs.take j) fs[j] = true := by
  have h1 := allOk_take h (j + 1)
  rw [List.take_succ_eq_append_getElem hj] at h1
  unfold allOk at h1
  rw [okGo_append, Bool.and_eq_true, List.nil_append] at h1
  have := h1.2
  rw [okGo, Bool.and_eq_true] at this
  exact this.1
theorem allOk_snoc {fs : List Fin_} {j : Nat} (hj : j < fs.length) : allOk (fs.take (j + 1)) = (allOk (fs.take j) && okF (fs.take j) fs[j]) := by
  rw [List.take_succ_eq_append_getElem hj]
  unfold allOk
  rw [okGo_append, List.nil_append, okGo, okGo, Bool.and_true]
theorem allOk_bad {fs : List Fin_} {j : Nat} (hj : j < fs.length) (h : okF (fs.take j) fs[j] = false) : allOk fs = false := by
  cases e : allOk fs with
  | false => rfl
  | true => rw [allOk_at e hj] at h; cases h
/-- What a look in the folder of some files finds. -/
theorem find_nowOf {fs : List Fin_} (h : allOk fs = true) : ∀ (k : Nm) (i : Nat), find (nowOf fs) k = some i ↔ ∃ f, fs[i]? = some f ∧ f.name = k := by
  suffices H : ∀ j, j ≤ fs.length → ∀ (k : Nm) (i : Nat), find (nowOf (fs.take j)) k = some i ↔ ∃ f, (fs.take j)[i]? = some f ∧ f.name = k by
    have := H fs.length (Nat.le_refl _)
    rwa [List.take_length] at this
  intro j
  induction j with
  | zero => intro _ k i; simp [nowOf, nowGo, find]
  | succ j ih =>
    intro hj k i
    have hjl : j < fs.length := hj
    have ih := ih (by omega)
    have hok := allOk_at h hjl
    rw [List.take_succ_eq_append_getElem hjl, nowOf_snoc]
    have hlen : (fs.take j).length = j := by rw [List.length_take]; omega
    rw [hlen]
    have hnew : ∀ f ∈ fs.take j, f.name ≠ fs[j].name := by
      intro f hf e
      have : ((fs.take j).any fun g => g.name == fs[j].name) = true := List.any_eq_true.2 ⟨f, hf, by simp [e]⟩
      simp [okF, this] at hok
    by_cases e : k = fs[j].name
    · subst e
      rw [find_put_same (rising_nowOf _)]
      constructor
      · intro hi; cases hi
        exact ⟨fs[j], by rw [List.getElem?_append_right (by omega), hlen, Nat.sub_self]; rfl, rfl⟩
      · rintro ⟨f, hf, hn⟩
        by_cases hij : i < j
        · rw [List.getElem?_append_left (by omega)] at hf
          exact absurd hn (hnew f (List.mem_of_getElem? hf))
        · rw [List.getElem?_append_right (by omega), hlen] at hf
          have : i - j < 1 := by have := (List.getElem?_eq_some_iff.1 hf).1; simpa using this
          congr 1; omega
    · rw [find_put_other (rising_nowOf _) j e, ih]
      constructor
      · rintro ⟨f, hf, hn⟩
        exact ⟨f, by rw [List.getElem?_append_left (List.getElem?_eq_some_iff.1 hf).1]; exact hf, hn⟩
      · rintro ⟨f, hf, hn⟩
        by_cases hij : i < j
        · rw [List.getElem?_append_left (by omega)] at hf
          exact ⟨f, hf, hn⟩
        · rw [List.getElem?_append_right (by omega), hlen] at hf
          have h1 : i - j < 1 := by have := (List.getElem?_eq_some_iff.1 hf).1; simpa using this
          have h0 : i - j = 0 := by omega
          rw [h0] at hf
          simp only [List.getElem?_cons_zero, Option.some.injEq] at hf
          subst hf
          exact absurd hn.symm e
theorem ids_nowOf {fs : List Fin_} (h : allOk fs = true) {i : Nat} (hi : i ∈ ids (nowOf fs)) : i < fs.length := by
  obtain ⟨⟨k, j⟩, hp, rfl⟩ := List.mem_map.1 hi
  obtain ⟨f, hf, -⟩ := (find_nowOf h k j).1 (find_of_mem (rising_nowOf _) hp)
  exact (List.getElem?_eq_some_iff.1 hf).1
theorem len_nowOf (fs : List Fin_) : (nowOf fs).length ≤ fs.length := by
  suffices H : ∀ (fs : List Fin_) i l, Rising l → (nowGo i l fs).length ≤ l.length + fs.length by
    have := H fs 0 [] List.Pairwise.nil
    simpa [nowOf] using this
  intro fs
  induction fs with
  | nil => intro i l _; exact Nat.le_refl _
  | cons f r ih =>
    intro i l hl
    have h1 := ih (i + 1) (put l f.name i) (hl.put _ _)
    have h2 := len_put hl f.name i
    rw [nowGo, List.length_cons]
    split at h2 <;> omega
theorem nodup_nowOf {fs : List Fin_} (h : allOk fs = true) : (ids (nowOf fs)).Nodup := by
  suffices H : ∀ j, j ≤ fs.length → (ids (nowOf (fs.take j))).Nodup by
    have := H fs.length (Nat.le_refl _)
    rwa [List.take_length] at this
  intro j
  induction j with
  | zero => intro _; simp [nowOf, nowGo, ids]
  | succ j ih =>
    intro hj
    have hjl : j < fs.length := hj
    rw [List.take_succ_eq_append_getElem hjl, nowOf_snoc]
    have hlen : (fs.take j).length = j := by rw [List.length_take]; omega
    refine nodup_put_new _ (ih (by omega)) fun i hi => ?_
    have := ids_nowOf (allOk_take h j) hi
    omega
theorem total_le {fs : List Fin_} {f : Fin_} (h : f ∈ fs) : f.bytes.length ≤ total fs := by
  obtain ⟨a, b, rfl⟩ := List.append_of_mem h
  simp only [total, List.map_append, List.map_cons, List.sum_append, List.sum_cons]
  omega
/-- Such a disk is as every disk. -/
theorem fine_from {room : Int} {fs : List Fin_} (h : fromErr room fs = 0) : Fine (fromSt room fs) := by
  unfold fromErr at h
  split at h
  · cases h
  rename_i h1
  split at h
  · cases h
  rename_i h2
  have h2 : allOk fs = true := by simpa using h2
  split at h
  · cases h
  rename_i h3
  have hat : ∀ k, (fromSt room fs).at_ k = nowOf fs := fun k => by simp [fromSt, St.at_]
  refine ⟨⟨?_, rising_nowOf _, fun k => ?_, fun k i hi => ?_, fun d hd => ?_, fun c hc => by simp [fromSt] at hc⟩, fun c hc => by simp [fromSt] at hc, fun k => ?_, fun d hd => ?_, ?_⟩
  · simp [fromSt]
  · have := nodup_nowOf h2
    simpa [fromSt] using this
  · have hi : i ∈ ids (nowOf fs) := by simpa [fromSt] using hi
    have := ids_nowOf h2 hi
    simpa [fromSt] using this
  · obtain ⟨f, hf, rfl⟩ := List.mem_map.1 hd
    obtain ⟨j, hj, rfl⟩ := List.getElem_of_mem hf
    have := allOk_at h2 hj
    simp only [okF, Bool.and_eq_true, decide_eq_true_eq] at this
    simp only [Fin_.nd]
    omega
  · rw [hat]
    have := len_nowOf fs
    omega
  · obtain ⟨f, hf, rfl⟩ := List.mem_map.1 hd
    have := total_le hf
    simp only [Fin_.nd]
    omega
  · simp only [fromSt]; omega
/-- The bytes of its folder are those of all files. -/
theorem size_from {fs : List Fin_} (h : allOk fs = true) (room : Int) : (fromSt room fs).size (nowOf fs) = total fs := by
  have hp : ((ids (nowOf fs)).map fun i => ((fs.map Fin_.nd)[i]?.map (·.bytes.length)).getD 0).sum = total fs := by
    have hperm : (ids (nowOf fs)).Perm (List.range fs.length) := by
      rw [List.perm_ext_iff_of_nodup (nodup_nowOf h) List.nodup_range]
      intro i
      rw [List.mem_range]
      refine ⟨ids_nowOf h, fun hi => ?_⟩
      have := (find_nowOf h fs[i].name i).2 ⟨fs[i], List.getElem?_eq_getElem hi, rfl⟩
      exact List.mem_map.2 ⟨_, mem_of_find this, rfl⟩
    rw [(hperm.map _).sum_nat]
    unfold total
    congr 1
    apply List.ext_getElem
    · simp
    · intro i h1 h2
      simp at h1 h2
      simp [h1, Fin_.nd]
  unfold St.size
  rw [← hp]
  unfold ids
  rw [List.map_map]
  rfl
end Disk
end Go.Proofs.YtncpeogkccjmcaaGreatDoor
