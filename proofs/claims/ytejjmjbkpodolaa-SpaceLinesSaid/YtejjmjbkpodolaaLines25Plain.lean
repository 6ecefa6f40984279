/- Lines joined by line ends and cut again: plain facts on lists of bytes; no program in sight. No conditions. -/
import Derived.Test.YtejjmjbkpodolaaSpacePlain
namespace Go.Proofs.Ytejjmjbkpodolaa.Space

/-- Rows, a line end between each two. -/
def joinL : List Bs → Bs
  | [] => []
  | [a] => a
  | a :: b :: r => a ++ 10 :: joinL (b :: r)
theorem joinL_cons {a : Bs} {r : List Bs} (h : r ≠ []) : joinL (a :: r) = a ++ 10 :: joinL r := by
  cases r with
  | nil => exact absurd rfl h
  | cons b r => rfl
theorem joinL_add {W : List Bs} (h : W ≠ []) (x : Bs) : joinL (W ++ [x]) = joinL W ++ 10 :: x := by
  induction W with
  | nil => exact absurd rfl h
  | cons a r ih =>
    by_cases hr : r = []
    · subst hr; rfl
    · rw [List.cons_append, joinL_cons (by simp), joinL_cons hr, ih hr, List.append_assoc, List.cons_append]
/-- Rows that hold no line end. -/
def Plain (W : List Bs) : Prop := ∀ x ∈ W, (10 : UInt8) ∉ x
theorem mem_joinL {W : List Bs} (hp : Plain W) : (10 : UInt8) ∈ joinL W ↔ 1 < W.length := by
  match W with
  | [] => simp [joinL]
  | [a] => simp only [joinL, List.length_cons, List.length_nil, Nat.lt_irrefl, Nat.zero_add, iff_false]; exact hp a (by simp)
  | a :: b :: r => simp [joinL]
theorem first_joinL {a : Bs} {r : List Bs} (hp : Plain (a :: r)) : firstR (joinL (a :: r)) = a := by
  have ha : (10 : UInt8) ∉ a := hp a (by simp)
  cases r with
  | nil => exact first_all ha
  | cons b r => exact first_of ha
theorem cut_joinL {a : Bs} {r : List Bs} (hp : Plain (a :: r)) (hr : r ≠ []) : cutR (joinL (a :: r)) = joinL r := by
  rw [joinL_cons hr, cut_of (hp a (by simp))]
/-- A text's lines on their way: those that are done, the last. -/
def lnStep (s : List Bs × Bs) (b : UInt8) : List Bs × Bs := if b = 10 then (s.1 ++ [s.2], []) else (s.1, s.2 ++ [b])
def lns (p : Bs) : List Bs × Bs := p.foldl lnStep ([], [])
theorem lns_take {p : Bs} {i : Nat} (hi : i < p.length) : lns (p.take (i + 1)) = lnStep (lns (p.take i)) p[i] := by
  unfold lns
  rw [List.take_add_one, List.foldl_append, List.getElem?_eq_getElem hi]
  rfl
theorem foldl_plain {a : Bs} (h : (10 : UInt8) ∉ a) (I : List Bs) (l : Bs) : a.foldl lnStep (I, l) = (I, l ++ a) := by
  induction a generalizing l with
  | nil => simp
  | cons x r ih =>
    have hx : x ≠ 10 := by rintro rfl; simp at h
    rw [List.foldl_cons, show lnStep (I, l) x = (I, l ++ [x]) by simp [lnStep, hx], ih (by intro h'; exact h (by simp [h']))]
    simp
theorem foldl_joinL (W : List Bs) (hW : W ≠ []) (hp : Plain W) (I : List Bs) : ((joinL W).foldl lnStep (I, [])).1 ++ [((joinL W).foldl lnStep (I, [])).2] = I ++ W := by
  induction W generalizing I with
  | nil => exact absurd rfl hW
  | cons a r ih =>
    have ha : (10 : UInt8) ∉ a := hp a (by simp)
    by_cases hr : r = []
    · subst hr; simp [joinL, foldl_plain ha]
    · rw [joinL_cons hr, List.foldl_append, foldl_plain ha, List.foldl_cons]
      have e : lnStep (I, [] ++ a) 10 = (I ++ [a], []) := by simp [lnStep]
      rw [e, ih hr (fun x hx => hp x (by simp [hx]))]
      simp
theorem lns_joinL {W : List Bs} (hW : W ≠ []) (hp : Plain W) : (lns (joinL W)).1 ++ [(lns (joinL W)).2] = W := by
  have := foldl_joinL W hW hp []
  simpa [lns] using this
/-- A row without its line ends. -/
def plainR (b : Bs) : Bs := b.filter (· ≠ 10)
theorem plainR_no (b : Bs) : (10 : UInt8) ∉ plainR b := by simp [plainR]
theorem plainR_len (b : Bs) : (plainR b).length ≤ b.length := List.length_filter_le _ _
theorem plainR_take {b : Bs} {i : Nat} (hi : i < b.length) : plainR (b.take (i + 1)) = if b[i] = 10 then plainR (b.take i) else plainR (b.take i) ++ [b[i]] := by
  unfold plainR
  rw [List.take_add_one, List.filter_append, List.getElem?_eq_getElem hi]
  by_cases h : b[i] = 10 <;> simp [h]
end Go.Proofs.Ytejjmjbkpodolaa.Space
