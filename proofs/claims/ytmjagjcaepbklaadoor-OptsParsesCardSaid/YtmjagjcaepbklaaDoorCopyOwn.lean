/- copy onto a whole row of the call's own, of elements of any number of cells. No program in sight. No conditions. -/
import Derived.Test.YtmjagjcaepbklaaDoorOnly
import Derived.Laws.CopyOwn
import Derived.Laws.MakeOwn
namespace Go.Proofs.YtmjagjcaepbklaaDoor
open Go.RowKit Go.ChangeShapes Go.WideShapes Go.Deep

section
variable {α : Type} {P : Program} (w : World)
theorem run_copy_Own (r : Rep α) (base : Nat) (t sT ty e : TypeId) (bytes : Nat) (hT : SliceType P t e r.n bytes) (A1 : Option Addr) (n c : Nat) (l : List α) (hown : Own r e w base nob (.slice A1 n c) l)
    (S2 : Blocks) (A : Option Addr) (c2 : Nat) (m : List α) (hm : SliceAt r w S2 A c2 m) (hlen : m.length = n) (hflat : ∀ cs x, r.is w S2 cs x → r.is w nob cs x) :
    ∃ w', (Builtin.copy_ #[t, sT] ty #[.slice A1 n c, .slice A n c2]).run P w = .ok (goInt n) w' ∧ Own r e w' base nob (.slice A1 n c) m ∧ Only (fun b => some b = (Value.slice A1 n c).ownBlock) w w' := by
  obtain ⟨ht, ⟨i, z, hi, hz, hsize, hby, hzs⟩, hpos⟩ := hT
  have hln : l.length = n := by obtain ⟨_, _, _, he, hn, _, _⟩ := hown.form; simp only [Value.slice.injEq] at he; rw [he.2.1]; exact hn.out.symm
  obtain ⟨ys, hyl, hy1, hya, hyr⟩ := hm.flat
  rcases Nat.eq_zero_or_pos n with h0 | h0
  · subst h0
    obtain rfl : m = [] := List.eq_nil_of_length_eq_zero hlen
    obtain rfl : l = [] := List.eq_nil_of_length_eq_zero hln
    refine ⟨w, ?_, hown, Only.refl _ _⟩
    have hl : ∀ (x : Addr), (loadCells x 0).run P w = .ok #[] w := fun x => by simpa using run_loadCells_list (P := P) w x [] (by simp)
    cases A1 <;> cases A <;> simp [Builtin.copy_, run_underlying ht, Builtin.lenOf, Builtin.firstCells, sizeOf, typeInfo, hi, storeCells, hl]
  · obtain ⟨xs, ⟨hxl, hv⟩, -, h1, hr⟩ := hown
    rcases hv with ⟨-, hn0⟩ | ⟨g, cap, cur, hv, hb, hg, hle, hmax, hsz, htk⟩
    · omega
    simp only [Value.slice.injEq] at hv
    obtain ⟨rfl, -, rfl⟩ := hv
    obtain ⟨ga, oa, rfl, -, hc⟩ := hya (by omega)
    have hl := run_loadCells_list (P := P) w ⟨ga, oa, none⟩ ys (fun j u hj => by rw [add_plain]; exact hc j u hj)
    have hfit : 0 + 0 + ys.length ≤ cur.size := by rw [hyl, hlen, hsz]; simp only [Nat.zero_add]; exact Nat.mul_le_mul_right _ (by omega)
    have hst := run_storeCells_at P g 0 e ys 0 cur w hg hfit hy1
    have hadd : (⟨g, 0, none⟩ : Addr) = ⟨g, 0, none⟩ := rfl
    refine ⟨w.setRow g (ys ++ cur.toList.drop ys.length).toArray, ?_, ⟨ys, ⟨hyl, .inr ⟨g, c, (ys ++ cur.toList.drop ys.length).toArray, by rw [hlen], hb, setRow_heap w g _ _ e _ hg, by omega, hmax, ?_, ?_⟩⟩, fun _ h => h.elim, hy1, fun k hk => ?_⟩, ⟨rfl, rfl, rfl, by simp [World.setRow], fun b _ hn => setRow_other w g b _ (fun e => hn (by rw [e]; rfl))⟩⟩
    · simp only [Nat.zero_add, List.take_zero, List.nil_append] at hst
      simp [Builtin.copy_, run_underlying ht, Builtin.lenOf, Builtin.firstCells, sizeOf, typeInfo, hi, hsize, ← hlen, ← hyl, hl, hst]
    · simp at hfit ⊢; omega
    · rw [← hyl]; simp
    · exact r.keep (hflat _ _ (hyr k hk)) (fun _ h => h) fun _ h => h.elim
/-- .. as an operation. -/
theorem wpList_copy_Own {ops : Array Oper} {rest : List Oper} {o : Oper} {a : Act} {Q : Exit → Act → World → Prop} (hgd : o.guard = none) (d s : Operand) (t sT : TypeId)
    (ho : o.op = .call { callee := .builtin .copy, args := #[d, s], argTypes := #[t, sT] })
    (r : Rep α) (base : Nat) (e : TypeId) (bytes : Nat) (hT : SliceType P t e r.n bytes) (A1 : Option Addr) (n c : Nat) (l : List α) (hown : Own r e w base nob (.slice A1 n c) l)
    (S2 : Blocks) (A : Option Addr) (c2 : Nat) (m : List α) (hm : SliceAt r w S2 A c2 m) (hlen : m.length = n) (hflat : ∀ cs x, r.is w S2 cs x → r.is w nob cs x)
    (hd : a.eval d = .slice A1 n c) (hs : a.eval s = .slice A n c2)
    (h : ∀ w', Own r e w' base nob (.slice A1 n c) m → Only (fun b => some b = (Value.slice A1 n c).ownBlock) w w' → wpList P ops Q rest (a.put o.dst (goInt n)) w') : wpList P ops Q (o :: rest) a w := by
  refine wpList_plain hgd fun K hK => ?_
  obtain ⟨w', hrun, h2, h3⟩ := run_copy_Own (P := P) w r base t sT o.type e bytes hT A1 n c l hown S2 A c2 m hm hlen hflat
  unfold Oper.wp
  simp [execOp, ho, resolve, invoke, builtin, hd, hs, hrun, Result.andThen]
  exact hK _ _ (h w' h2 h3)
end
/-- A row just made, of elements of any number of cells. -/
theorem Own.madeN {α : Type} (r : Rep α) (e : TypeId) (u : World) (n B : Nat) (zs : Array Value) (x : α) (hr : ∀ w, r.is w nob zs.toList x) (hp : 0 < r.n) (hB : B ≤ u.heap.size) (hn : n ≤ maxLen) : Own r e (u.alloc (.cells (madeCells zs (n * r.n)) e)) B nob (.slice (some ⟨u.heap.size, 0, none⟩) n n) (List.replicate n x) := by
  have hz : zs.size = r.n := by have := r.size (hr u); simpa using this
  have hget : ∀ j, (hj : j < n * r.n) → (madeCells zs (n * r.n)).toList[j]? = zs.toList[j % r.n]? := by
    intro j hj
    have hm : j % zs.size < zs.size := Nat.mod_lt _ (by omega)
    simp [madeCells, hj, hz]
    rw [hz] at hm
    rw [Array.getElem?_eq_getElem (by omega)]
    simp [hz, hm]
  refine ⟨(madeCells zs (n * r.n)).toList, ⟨by simp [size_madeCells], .inr ⟨u.heap.size, n, _, by simp, hB, heap_alloc_new u _, by simp, hn, by rw [size_madeCells], ?_⟩⟩, fun _ h => h.elim, fun v hv => ?_, fun i hi => ?_⟩
  · rw [List.take_of_length_le (by simp [size_madeCells])]
  · obtain ⟨j, hj, rfl⟩ := List.getElem_of_mem hv
    have hj' : j < n * r.n := by simpa [size_madeCells] using hj
    have h1 := hget j hj'
    rw [List.getElem?_eq_getElem hj] at h1
    exact r.one (hr u) _ (List.mem_of_getElem? h1.symm)
  · simp only [List.length_replicate] at hi
    have hle : i * r.n + r.n ≤ n * r.n := by rw [← Nat.succ_mul]; exact Nat.mul_le_mul_right _ hi
    have e1 : ((madeCells zs (n * r.n)).toList.drop (i * r.n)).take r.n = zs.toList := by
      apply List.ext_getElem?
      intro j
      rw [List.getElem?_take]
      split
      · rename_i hj
        rw [List.getElem?_drop, hget _ (by omega)]
        congr 1
        rw [Nat.add_comm, Nat.add_mul_mod_self_right, Nat.mod_eq_of_lt hj]
      · rename_i hj
        rw [List.getElem?_eq_none]
        simp only [Array.length_toList, hz]; omega
    rw [e1]
    simpa using hr _
end Go.Proofs.YtmjagjcaepbklaaDoor
