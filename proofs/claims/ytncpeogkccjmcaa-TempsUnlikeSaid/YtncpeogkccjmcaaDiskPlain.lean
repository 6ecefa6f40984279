/- A disk of files, in lists: what each call makes of it. No program in sight. No conditions. -/
namespace Go.Proofs.Ytncpeogkccjmcaa
namespace Disk

abbrev Nm := List UInt8
/-- A folder: names and the numbers of their files, the names rising. -/
abbrev Fo := List (Nm × Nat)

theorem lt_trans {a b c : Nm} (h : a < b) (k : b < c) : a < c := List.lt_trans h k
theorem lt_irrefl (a : Nm) : ¬ a < a := List.lt_irrefl a
theorem lt_tri (a b : Nm) : a < b ∨ a = b ∨ b < a := by
  rcases Decidable.em (a < b) with h | h
  · exact .inl h
  · rcases Decidable.em (b < a) with k | k
    · exact .inr (.inr k)
    · exact .inr (.inl (List.le_antisymm (List.not_lt.1 k) (List.not_lt.1 h)))
theorem le_of_lt {a b : Nm} (h : a < b) : a ≤ b := List.le_of_lt h

structure Nd where
  bytes : List UInt8
  syn : Nat
  bad : Bool

structure Chg where
  src : Nm
  dst : Nm
  id : Nat

def find (l : Fo) (k : Nm) : Option Nat := (l.find? fun p => p.1 == k).map (·.2)
def drop (l : Fo) (k : Nm) : Fo := l.filter fun p => p.1 != k
def ins (k : Nm) (i : Nat) : Fo → Fo
  | [] => [(k, i)]
  | p :: r => if k < p.1 then (k, i) :: p :: r else p :: ins k i r
def put (l : Fo) (k : Nm) (i : Nat) : Fo := ins k i (drop l k)
def behind (l : Fo) (c : Chg) : Fo :=
  let l := if c.src = [] then l else drop l c.src
  if c.dst = [] then l else put l c.dst c.id
def keys (l : Fo) : List Nm := l.map (·.1)
def Rising (l : Fo) : Prop := l.Pairwise fun p q => p.1 < q.1

theorem mem_keys {l : Fo} {k : Nm} : k ∈ keys l ↔ (find l k).isSome = true := by
  simp [keys, find, List.find?_isSome]

theorem find_none {l : Fo} {k : Nm} : find l k = none ↔ k ∉ keys l := by
  rw [mem_keys]; cases find l k <;> simp

theorem find_of_mem {l : Fo} (h : Rising l) {k : Nm} {i : Nat} (hm : (k, i) ∈ l) : find l k = some i := by
  induction l with
  | nil => simp at hm
  | cons p r ih =>
    obtain ⟨h1, h2⟩ := List.pairwise_cons.1 h
    rcases List.mem_cons.1 hm with e | hm
    · subst e; simp [find]
    · have hlt := h1 _ hm
      have hne : (p.1 == k) = false := by
        rw [beq_eq_false_iff_ne]; intro e; rw [e] at hlt; exact lt_irrefl _ hlt
      have := ih h2 hm
      unfold find at this ⊢
      rw [List.find?_cons, hne]
      exact this

theorem mem_of_find {l : Fo} {k : Nm} {i : Nat} (h : find l k = some i) : (k, i) ∈ l := by
  unfold find at h
  obtain ⟨p, hp, rfl⟩ := Option.map_eq_some_iff.1 h
  have h1 := List.find?_some hp
  have h2 := List.mem_of_find?_eq_some hp
  obtain ⟨a, b⟩ := p
  have : a = k := by simpa using h1
  subst this
  exact h2

theorem find_drop_same (l : Fo) (k : Nm) : find (drop l k) k = none := by
  rw [find_none]; simp [keys, drop]

theorem find_drop_other (l : Fo) {k k' : Nm} (h : k' ≠ k) : find (drop l k) k' = find l k' := by
  unfold find drop
  rw [List.find?_filter]
  congr 2
  funext p
  cases e : (p.1 == k')
  · simp
  · have : p.1 = k' := by simpa using e
    simp [this, h]

theorem Rising.drop {l : Fo} (h : Rising l) (k : Nm) : Rising (drop l k) := h.filter _

theorem mem_ins {k : Nm} {i : Nat} {q : Nm × Nat} : ∀ {l : Fo}, q ∈ ins k i l ↔ q = (k, i) ∨ q ∈ l
  | [] => by simp [ins]
  | p :: r => by
    unfold ins
    split
    · simp
    · simp only [List.mem_cons, mem_ins (l := r)]
      constructor
      · rintro (h | h | h) <;> simp [h]
      · rintro (h | h | h) <;> simp [h]

theorem Rising.ins {l : Fo} (h : Rising l) {k : Nm} (i : Nat) (hk : k ∉ keys l) : Rising (ins k i l) := by
  induction l with
  | nil => simp [Disk.ins, Rising]
  | cons p r ih =>
    obtain ⟨h1, h2⟩ := List.pairwise_cons.1 h
    have hne : k ≠ p.1 := fun e => hk (by simp [keys, e])
    have hk' : k ∉ keys r := fun e => hk (by simp [keys] at e ⊢; exact .inr e)
    unfold Disk.ins
    split
    · rename_i hlt
      refine List.pairwise_cons.2 ⟨fun q hq => ?_, h⟩
      rcases List.mem_cons.1 hq with rfl | hq
      · exact hlt
      · exact lt_trans hlt (h1 q hq)
    · rename_i hlt
      refine List.pairwise_cons.2 ⟨fun q hq => ?_, ih h2 hk'⟩
      rcases mem_ins.1 hq with rfl | hq
      · rcases lt_tri k p.1 with h | h | h
        · exact absurd h hlt
        · exact absurd h hne
        · exact h
      · exact h1 q hq

theorem Rising.put {l : Fo} (h : Rising l) (k : Nm) (i : Nat) : Rising (put l k i) :=
  (h.drop k).ins i (find_none.1 (find_drop_same l k))

theorem find_put_same {l : Fo} (h : Rising l) (k : Nm) (i : Nat) : find (put l k i) k = some i :=
  find_of_mem (h.put k i) (mem_ins.2 (.inl rfl))

theorem find_ext {l l' : Fo} (h : Rising l) (h' : Rising l') (e : ∀ k, find l k = find l' k) : l = l' := by
  have hm : ∀ p : Nm × Nat, p ∈ l ↔ p ∈ l' := fun ⟨k, i⟩ =>
    ⟨fun hp => mem_of_find ((e k).symm.trans (find_of_mem h hp)), fun hp => mem_of_find ((e k).trans (find_of_mem h' hp))⟩
  clear e
  induction l generalizing l' with
  | nil =>
    cases l' with
    | nil => rfl
    | cons q s => have := (hm q).2 (by simp); simp at this
  | cons p r ih =>
    cases l' with
    | nil => have := (hm p).1 (by simp); simp at this
    | cons q s =>
      obtain ⟨a1, a2⟩ := List.pairwise_cons.1 h
      obtain ⟨b1, b2⟩ := List.pairwise_cons.1 h'
      have hpq : p = q := by
        rcases List.mem_cons.1 ((hm p).1 (by simp)) with e | hp
        · exact e
        · rcases List.mem_cons.1 ((hm q).2 (by simp)) with e | hq
          · exact e.symm
          · exact absurd (lt_trans (a1 q hq) (b1 p hp)) (lt_irrefl _)
      subst hpq
      congr 1
      refine ih a2 b2 fun x => ⟨fun hx => ?_, fun hx => ?_⟩
      · rcases List.mem_cons.1 ((hm x).1 (by simp [hx])) with e | hx'
        · subst e; exact absurd (a1 x hx) (lt_irrefl _)
        · exact hx'
      · rcases List.mem_cons.1 ((hm x).2 (by simp [hx])) with e | hx'
        · subst e; exact absurd (b1 x hx) (lt_irrefl _)
        · exact hx'

theorem find_put_other {l : Fo} (h : Rising l) {k k' : Nm} (i : Nat) (hne : k' ≠ k) : find (put l k i) k' = find l k' := by
  rw [← find_drop_other l hne]
  cases e : find (drop l k) k' with
  | none =>
    rw [find_none] at e ⊢
    intro hm
    simp only [keys, List.mem_map] at hm
    obtain ⟨q, hq, rfl⟩ := hm
    rcases mem_ins.1 hq with rfl | hq
    · exact hne rfl
    · exact e (List.mem_map.2 ⟨q, hq, rfl⟩)
  | some j => exact find_of_mem (h.put k i) (mem_ins.2 (.inr (mem_of_find e)))

theorem Rising.behind {l : Fo} (h : Rising l) (c : Chg) : Rising (behind l c) := by
  unfold Disk.behind
  dsimp only
  have h1 : Rising (if c.src = [] then l else Disk.drop l c.src) := by
    split
    · exact h
    · exact h.drop _
  split
  · exact h1
  · exact h1.put _ _

theorem Rising.fold {l : Fo} (h : Rising l) : ∀ cs : List Chg, Rising (cs.foldl Disk.behind l)
  | [] => h
  | c :: r => Rising.fold (h.behind c) r

/-- Keys gathered in any order, sorted, are the names of the folder. -/
theorem sorted_keys {l : Fo} (h : Rising l) (ks : List Nm) (hn : ks.Nodup) (hm : ∀ k, k ∈ ks ↔ (find l k).isSome = true) : ks.mergeSort (fun x y => decide (x ≤ y)) = keys l := by
  have hle : (keys l).Pairwise fun a b => decide (a ≤ b) = true := by
    unfold keys
    rw [List.pairwise_map]
    exact h.imp fun hab => by simpa using le_of_lt hab
  have hnd : (keys l).Nodup := by
    unfold keys List.Nodup
    rw [List.pairwise_map]
    exact h.imp fun hab e => by rw [e] at hab; exact lt_irrefl _ hab
  have hp : (ks.mergeSort fun x y => decide (x ≤ y)).Perm (keys l) := by
    refine (List.mergeSort_perm _ _).trans ?_
    rw [List.perm_ext_iff_of_nodup hn hnd]
    intro k
    rw [hm, mem_keys]
  have hs : (ks.mergeSort fun x y => decide (x ≤ y)).Pairwise fun a b => decide (a ≤ b) = true :=
    List.pairwise_mergeSort (fun a b c h1 h2 => by
      have h1 : a ≤ b := by simpa using h1
      have h2 : b ≤ c := by simpa using h2
      simpa using List.le_trans h1 h2) (fun a b => by
      rcases List.le_total a b with h | h <;> simp [h]) ks
  exact hp.eq_of_pairwise (fun a b _ _ h1 h2 => List.le_antisymm (by simpa using h1) (by simpa using h2)) hs hle

/-! ### how many, and which files -/
theorem len_ins (k : Nm) (i : Nat) : ∀ l : Fo, (ins k i l).length = l.length + 1
  | [] => rfl
  | p :: r => by
    unfold ins
    split
    · rfl
    · simp [len_ins k i r]

theorem drop_none {l : Fo} {k : Nm} (h : find l k = none) : drop l k = l := by
  rw [find_none] at h
  unfold drop
  rw [List.filter_eq_self]
  intro p hp
  rw [bne_iff_ne]
  exact fun e => h (List.mem_map.2 ⟨p, hp, e⟩)

theorem len_drop {l : Fo} (h : Rising l) (k : Nm) : (drop l k).length + (if (find l k).isSome then 1 else 0) = l.length := by
  induction l with
  | nil => rfl
  | cons p r ih =>
    obtain ⟨h1, h2⟩ := List.pairwise_cons.1 h
    cases e : (p.1 == k)
    · have e1 : drop (p :: r) k = p :: drop r k := by simp [drop, e, bne]
      have e2 : find (p :: r) k = find r k := by simp [find, e]
      rw [e1, e2, List.length_cons, List.length_cons]
      have := ih h2
      omega
    · have hk : p.1 = k := by simpa using e
      have e2 : find (p :: r) k = some p.2 := by simp [find, e]
      have e0 : find r k = none := by
        rw [find_none]
        intro hm
        obtain ⟨q, hq, hqk⟩ := List.mem_map.1 hm
        have := h1 q hq
        rw [hk, ← hqk] at this
        exact lt_irrefl _ this
      have e1 : drop (p :: r) k = drop r k := by simp [drop, e, bne]
      rw [e1, e2, drop_none e0]
      rfl

theorem len_put {l : Fo} (h : Rising l) (k : Nm) (i : Nat) : (put l k i).length = if (find l k).isSome then l.length else l.length + 1 := by
  have := len_drop h k
  unfold put
  rw [len_ins]
  split <;> simp_all

/-- Which files a folder has. -/
def ids (l : Fo) : List Nat := l.map (·.2)
theorem ids_drop {l : Fo} {k : Nm} {i : Nat} (h : i ∈ ids (drop l k)) : i ∈ ids l := by
  obtain ⟨p, hp, rfl⟩ := List.mem_map.1 h
  exact List.mem_map.2 ⟨p, (List.mem_filter.1 hp).1, rfl⟩
theorem ids_put {l : Fo} {k : Nm} {i j : Nat} (h : j ∈ ids (put l k i)) : j = i ∨ j ∈ ids l := by
  obtain ⟨p, hp, rfl⟩ := List.mem_map.1 h
  rcases mem_ins.1 hp with rfl | hp
  · exact .inl rfl
  · exact .inr (ids_drop (List.mem_map.2 ⟨p, hp, rfl⟩))
theorem ids_behind {l : Fo} {c : Chg} {j : Nat} (h : j ∈ ids (behind l c)) : (j = c.id ∧ c.dst ≠ []) ∨ j ∈ ids l := by
  unfold behind at h
  dsimp only at h
  split at h
  · split at h
    · exact .inr h
    · exact .inr (ids_drop h)
  · rename_i hd
    rcases ids_put h with rfl | h
    · exact .inl ⟨rfl, hd⟩
    · split at h
      · exact .inr h
      · exact .inr (ids_drop h)

theorem nodup_ins {k : Nm} {i : Nat} : ∀ {l : Fo}, (ids l).Nodup → i ∉ ids l → (ids (ins k i l)).Nodup
  | [], _, _ => by simp [ins, ids]
  | p :: r, h, hi => by
    have h' : p.2 ∉ ids r ∧ (ids r).Nodup := by simpa [ids] using h
    have hi' : i ≠ p.2 ∧ i ∉ ids r := by simpa [ids] using hi
    unfold ins
    split
    · simp only [ids, List.map_cons, List.nodup_cons, List.mem_cons] at hi h ⊢
      exact ⟨hi, h⟩
    · have ih := nodup_ins (k := k) h'.2 hi'.2
      have : p.2 ∉ ids (ins k i r) := by
        intro hm
        obtain ⟨q, hq, hqe⟩ := List.mem_map.1 hm
        rcases mem_ins.1 hq with rfl | hq
        · exact hi'.1 hqe
        · exact h'.1 (List.mem_map.2 ⟨q, hq, hqe⟩)
      simp only [ids, List.map_cons, List.nodup_cons] at this ih ⊢
      exact ⟨this, ih⟩
theorem nodup_drop {l : Fo} (k : Nm) (h : (ids l).Nodup) : (ids (drop l k)).Nodup := by
  unfold ids drop
  exact h.sublist (List.filter_sublist.map _)
theorem nodup_put {l : Fo} (k : Nm) {i : Nat} (h : (ids l).Nodup) (hi : i ∉ ids (drop l k)) : (ids (put l k i)).Nodup := nodup_ins (nodup_drop k h) hi

/-! ### the disk -/
/-- May a file stand under it? -/
def isName (s : Nm) : Bool := decide (1 ≤ s.length) && decide (s.length ≤ 64) && !s.any fun b => b == 0 || b == 10 || b == 47

/-- All files that ever were, the folder, the durable one, the changes between them, what is planned. -/
structure St where
  room : Int
  on : Bool
  all : List Nd
  now : Fo
  old : Fo
  row : List Chg
  plan : List (Int × Int)
  tries : Int
  done : Int

namespace St
def size (s : St) (l : Fo) : Nat := (l.map fun p => (s.all[p.2]?.map (·.bytes.length)).getD 0).sum
/-- What hinders a look: at names, at a file. -/
def looked (s : St) (has : Nm) (names : List Nm) : Int :=
  if !s.on then 24 else if names.any (fun n => !isName n) then 20 else if has ≠ [] ∧ find s.now has = none then 21 else 0
/-- The next try: what the plan has for it. -/
def tried (s : St) : St × Int :=
  match s.plan.find? (fun f => f.1 == s.tries + 1) with
  | none => ({ s with tries := s.tries + 1 }, 0)
  | some f => ({ s with tries := s.tries + 1, on := s.on && f.2 != 24 }, f.2)
def changes (s : St) (c : Chg) : St := { s with now := behind s.now c, row := s.row ++ [c] }
def more (s : St) : St := { s with done := s.done + 1 }
def settled (s : St) : St := { s with old := s.now, row := [] }
/-- A call with names that may ask for a file: what it does where nothing hinders. -/
def call (s : St) (names : List Nm) (has : Nm) (f : St → St × Int) : St × Int :=
  if s.looked [] names ≠ 0 then (s, s.looked [] names)
  else if s.looked has [] ≠ 0 then (s, s.looked has [])
  else if s.tried.2 ≠ 0 then s.tried else f s.tried.1
def make (s : St) (n : Nm) : St × Int :=
  s.call [n] [] fun s => if find s.now n = none ∧ 64 ≤ s.now.length then (s, 22)
    else ((changes { s with all := s.all ++ [⟨[], 0, false⟩] } ⟨[], n, s.all.length⟩).more, 0)
def setNd (s : St) (i : Nat) (f : Nd → Nd) : St := { s with all := s.all.modify i f }
def append (s : St) (n : Nm) (b : List UInt8) : St × Int :=
  s.call [n] n fun s => if 0 < b.length ∧ s.room - s.size s.now < b.length then (s, 22)
    else ((s.setNd ((find s.now n).getD 0) fun d => { d with bytes := d.bytes ++ b }).more, 0)
def sync (s : St) (n : Nm) : St × Int :=
  s.call [n] n fun s => ((s.setNd ((find s.now n).getD 0) fun d => { d with syn := d.bytes.length }).more, 0)
def rename (s : St) (n m : Nm) : St × Int :=
  s.call [n, m] n fun s => ((if n = m then s else s.changes ⟨n, m, (find s.now n).getD 0⟩).more, 0)
def remove (s : St) (n : Nm) : St × Int :=
  if s.looked [] [n] ≠ 0 then (s, s.looked [] [n])
  else if s.looked n [] ≠ 0 then (s, s.looked n [])
  else if s.tried.2 = 24 then s.tried else ((s.tried.1.changes ⟨n, [], 0⟩).more, 0)
def syncDir (s : St) : St × Int := s.call [] [] fun s => (s.settled.more, 0)
def there (s : St) (n : Nm) : Int := if s.looked [] [n] ≠ 0 then s.looked [] [n] else s.looked n []
def file (s : St) (n : Nm) : Nd := ((find s.now n).bind fun i => s.all[i]?).getD ⟨[], 0, false⟩
def read (s : St) (n : Nm) : List UInt8 × Int := if s.there n ≠ 0 then ([], s.there n) else if (s.file n).bad then ([], 23) else ((s.file n).bytes, 0)
def spoil (s : St) (n : Nm) (bad : Bool) : St × Int := if s.there n ≠ 0 then (s, s.there n) else (s.setNd ((find s.now n).getD 0) fun d => { d with bad := bad }, 0)
def planOk : Int → List (Int × Int) → Bool
  | _, [] => true
  | last, f :: r => decide (last < f.1) && (f.2 == 23 || f.2 == 22 || f.2 == 24) && planOk f.1 r
def plan_ (s : St) (l : List (Int × Int)) : St × Int := if planOk 0 l then ({ s with plan := l, tries := 0 }, 0) else (s, 1)
def names (s : St) : List Nm := if s.on then keys s.now else []
def files (s : St) : List (Nm × Nd) := if s.on then s.now.map fun p => (p.1, (s.all[p.2]?).getD ⟨[], 0, false⟩) else []
def off (s : St) : St := { s with on := false }
/-- A number from 0 to most. -/
def left (n : Int) (most : Nat) : Nat := min n.toNat most
/-- What is left of the files of a folder. -/
def cutNd (d : Nd) (k : Option Int) : Nd :=
  let n := d.syn + (match k with | none => 0 | some k => left k (d.bytes.length - d.syn))
  ⟨d.bytes.take n, n, d.bad⟩
def cuts (keep : List Int) : Nat → Fo → List Nd → List Nd
  | _, [], a => a
  | i, p :: r, a => cuts keep (i + 1) r (a.modify p.2 fun d => cutNd d keep[i]?)
def start (s : St) (dir : Int) (keep : List Int) : St :=
  if s.on then s else
    let l := (s.row.take (left dir s.row.length)).foldl behind s.old
    { s with now := l, old := l, row := [], on := true, all := cuts keep 0 l s.all }
end St

/-- What every disk is. -/
structure Good (s : St) : Prop where
  now : s.now = s.row.foldl behind s.old
  old : Rising s.old
  nodup : ∀ k, (ids ((s.row.take k).foldl behind s.old)).Nodup
  have_ : ∀ k, ∀ i ∈ ids ((s.row.take k).foldl behind s.old), i < s.all.length
  sync : ∀ d ∈ s.all, d.syn ≤ d.bytes.length
  names : ∀ c ∈ s.row, (c.src ≠ [] ∨ c.dst ≠ [])

end Disk
end Go.Proofs.Ytncpeogkccjmcaa
