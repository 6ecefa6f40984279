/- append onto a row of the call's own, and which cells stay: all but those behind the row's end in its own block. No program in sight. No conditions. -/
import Derived.Test.YtfmaaempcpjpkaaDoorOnly
namespace Go.Proofs.YtfmaaempcpjpkaaDoor
open Go.RowKit Go.ChangeShapes Go.WideShapes Go.Deep

section
variable {α : Type} {P : Program} (w : World)
/-- Which cells stay. -/
def Stays (v : Value) (k : Nat) (w w' : World) : Prop := ∀ b o, b < w.heap.size → (some b = v.ownBlock → o < k) → w'.cell? ⟨b, o, none⟩ = w.cell? ⟨b, o, none⟩
theorem append_stays (base : Nat) (t ty e : TypeId) (i : TypeInfo) (z : Value) (size bytes : Nat) (ht : P.underlying t = some (.slice e)) (hi : P.info? e = some i) (hz : i.zero = some z) (hsize : i.size = size) (hby : i.bytes = bytes)
    (v : Value) (n : Nat) (xs : List Value) (hown : w.ownsRow base e size v n xs) (a : Addr) (m c : Nat) (news : List Value) (hl : news.length = m * size) (hnews : ∀ j u, news[j]? = some u → w.cell? (a.add j) = some u) (h1 : ∀ u ∈ news, u.oneCell' = true)
    (hm : 0 < m) (h63 : n + m ≤ maxLen) (hbytes : (n + m) * bytes ≤ 140737488355328) (v' : Value) (w' : World) (hrun : (Builtin.append_ #[t, t] ty #[v, .slice (some a) m c]).run P w = .ok v' w') : Stays v (n * size) w w' := by
  subst hsize
  subst hby
  have hsmall : n + m ≤ 9223372036854775807 := by simp only [maxLen] at h63; omega
  have hnew : ∀ (o : Obj) (b k : Nat), b < w.heap.size → (w.drew.alloc o).cell? ⟨b, k, none⟩ = w.cell? ⟨b, k, none⟩ := fun o b k hb =>
    World.cell?_of_block (w' := w.drew.alloc o) (w := w) (a := ⟨b, k, none⟩) (heap_alloc_old w.drew _ b hb)
  rcases hown.2 with ⟨rfl, rfl⟩ | ⟨g, cap, cur, rfl, hbg, hg, hnc, hcm, hcs, htake⟩
  · have hr := run_append_nil (P := P) w t ty e i z ht hi hz a m c news hl hnews hm (by omega) (by have hb := hbytes; simp only [Nat.zero_add] at hb; omega)
    rw [hr] at hrun
    injection hrun with _ hw
    subst hw
    exact fun b o hb _ => hnew _ b o hb
  · by_cases hroom : n + m ≤ cap
    · have hfit : n * i.size + news.length ≤ cur.size := by rw [hl, hcs, ← Nat.add_mul]; exact Nat.mul_le_mul_right _ hroom
      have hr := run_append_room (P := P) w t ty e i ht hi g n cap cur hg a m c news hl hnews h1 hroom hfit
      rw [hr] at hrun
      injection hrun with _ hw
      subst hw
      intro b o hb hbo
      by_cases hbg : b = g
      · subst hbg
        have ho := hbo rfl
        rw [cell_of_row _ _ _ _ e _ (setRow_heap w b cur _ e _ hg), cell_of_row w b o cur e (0, 0) hg, ← Array.getElem?_toList, ← Array.getElem?_toList]
        simp only [List.append_assoc]
        rw [List.getElem?_append_left (by rw [List.length_take, Array.length_toList]; omega), List.getElem?_take, if_pos ho]
      · exact World.cell?_of_block (setRow_other w g b _ hbg)
    · have holds : ∀ j u, xs[j]? = some u → w.cell? ((⟨g, 0, none⟩ : Addr).add j) = some u := hown.cells (g := g) rfl
      have hr := run_append_grow (P := P) w t ty e i z ht hi hz ⟨g, 0, none⟩ n cap xs hown.1 holds a m c news hl hnews (by omega) (by omega) (growslice_fits (by omega) hbytes)
      rw [hr] at hrun
      injection hrun with _ hw
      subst hw
      exact fun b o hb _ => hnew _ b o hb
/-- append of some elements that lie somewhere, onto what is owned. -/
theorem run_append_OwnFr (r : Rep α) (base : Nat) (t ty e : TypeId) (bytes : Nat) (hT : SliceType P t e r.n bytes) (v : Value) (l : List α) (hown : Own r e w base nob v l)
    (S2 : Blocks) (A : Option Addr) (c : Nat) (m : List α) (hm : SliceAt r w S2 A c m) (h0 : 0 < m.length)
    (hflat : ∀ cs x, r.is w S2 cs x → r.is w nob cs x) (hbytes : (l.length + m.length) * bytes ≤ 140737488355328) (hlen : l.length + m.length ≤ 9223372036854775807) (hbase : base ≤ w.heap.size) :
    ∃ v' w', (Builtin.append_ #[t, t] ty #[v, .slice A m.length c]).run P w = .ok v' w' ∧ Own r e w' base nob v' (l ++ m) ∧ w.grownBy w' v.ownBlock ∧ (v'.ownBlock = v.ownBlock ∨ v'.ownBlock = some w.heap.size) ∧ Stays v (l.length * r.n) w w' := by
  obtain ⟨v', w', hrun, h2, h3, h4⟩ := run_append_Own (P := P) w r base t ty e bytes hT nob v l hown S2 A c m hm nob (fun _ h => h.elim) (fun _ h => h) hflat hbytes hlen hbase
  refine ⟨v', w', hrun, h2, h3, h4, ?_⟩
  obtain ⟨ht, ⟨i, z, hi, hz, hsize, hby, hzs⟩, hpos⟩ := hT
  obtain ⟨xs, ho, hS, h1, hr⟩ := hown
  obtain ⟨ys, hyl, hy1, hya, hyr⟩ := hm.flat
  obtain ⟨g, o, rfl, hg2, hc⟩ := hya h0
  exact append_stays (P := P) w base t ty e i z r.n bytes ht hi hz hsize hby v l.length xs ho ⟨g, o, none⟩ m.length c ys hyl (fun j u hj => by rw [add_plain]; exact hc j u hj) hy1 h0 (by simp only [maxLen]; omega) hbytes v' w' hrun
theorem wpList_append_OwnFr {ops : Array Oper} {rest : List Oper} {o : Oper} {a : Act} {Q : Exit → Act → World → Prop} (hgd : o.guard = none) (s x : Operand) (t : TypeId)
    (ho : o.op = .call { callee := .builtin .append, args := #[s, x], argTypes := #[t, t] })
    (r : Rep α) (base : Nat) (e : TypeId) (bytes : Nat) (hT : SliceType P t e r.n bytes) (v : Value) (l : List α) (hs : a.eval s = v) (hown : Own r e w base nob v l)
    (S2 : Blocks) (A : Option Addr) (c : Nat) (m : List α) (hx : a.eval x = .slice A m.length c) (hm : SliceAt r w S2 A c m) (h0 : 0 < m.length)
    (hflat : ∀ cs x, r.is w S2 cs x → r.is w nob cs x) (hbytes : (l.length + m.length) * bytes ≤ 140737488355328) (hlen : l.length + m.length ≤ 9223372036854775807) (hbase : base ≤ w.heap.size)
    (h : ∀ v' w', Own r e w' base nob v' (l ++ m) → w.grownBy w' v.ownBlock → (v'.ownBlock = v.ownBlock ∨ v'.ownBlock = some w.heap.size) → Stays v (l.length * r.n) w w' → wpList P ops Q rest (a.put o.dst v') w') : wpList P ops Q (o :: rest) a w := by
  refine wpList_plain hgd fun K hK => ?_
  obtain ⟨v', w', hrun, h2, h3, h4, h5⟩ := run_append_OwnFr (P := P) w r base t o.type e bytes hT v l hown S2 A c m hm h0 hflat hbytes hlen hbase
  unfold Oper.wp execOp
  simp only [ho, resolve, invoke, builtin, Sem.run_bind, Sem.run_pure, Result.andThen_ok, List.map_toArray, List.map_cons, List.map_nil, hs, hx, hrun]
  exact hK _ _ (h v' w' h2 h3 h4 h5)
end
end Go.Proofs.YtfmaaempcpjpkaaDoor
