/- A script of calls at spaces: how it reads; the walk of chapter 25's beyond; spaces of the two kinds lie in unlike blocks. Condition: room. -/
import Derived.Test.YtejjmjbkpodolaaDoorDoes25
namespace Go.Proofs.YtejjmjbkpodolaaDoor
open Go.RowKit Go.ChangeShapes Go.WideShapes Go.Deep

abbrev OpT := Int × Int × UInt8 × List UInt8
def Rep.op : Rep OpT := Rep.pair (Rep.int .i64) (Rep.pair (Rep.int .i64) (Rep.pair Rep.byte Rep.byte.slice fun p => p) fun p => p) fun p => p
theorem SliceAt.op {w : World} {S : Blocks} {A : Option Addr} {c : Nat} {l : List OpT} (h : SliceAt Rep.op w S A c l) {i : Nat} (hi : i < l.length) :
    ∃ g o A' c', A = some ⟨g, o, none⟩ ∧ S g ∧ w.cell? ⟨g, o + i * 4, none⟩ = some (.int .i64 l[i].1) ∧ w.cell? ⟨g, o + i * 4 + 1, none⟩ = some (.int .i64 l[i].2.1) ∧ w.cell? ⟨g, o + i * 4 + 2, none⟩ = some (.int .u8 l[i].2.2.1.toNat) ∧ w.cell? ⟨g, o + i * 4 + 3, none⟩ = some (.slice A' l[i].2.2.2.length c') ∧ SliceAt Rep.byte w S A' c' l[i].2.2.2 := by
  obtain ⟨g, o, cs, e, hb, hc, c1, c2, rfl, ⟨rfl, -⟩, c3, c4, rfl, ⟨rfl, -⟩, c5, c6, rfl, rfl, A', c', rfl, hs⟩ := h.at_ hi
  exact ⟨g, o, A', c', e, hb, hc 0 _ rfl, hc 1 _ rfl, hc 2 _ rfl, hc 3 _ rfl, hs⟩
set_option maxRecDepth 100000 in
theorem beyond_any (A : Option Addr) (N c : Nat) (l : List OpT) (w : World) (S : Blocks) (hN : Hid (N = l.length)) (hl : Hid (SliceAt Rep.op w S A c l)) (hb : Hid (∀ o ∈ l, o.2.2.2.length ≤ 140737488355328)) :
    Calls Tryd.prog 5 #[.slice A N c] w fun e w' => ∃ r, e = .returned (.bool r) ∧ w = w' ∧ Hid (r = false → ∀ o ∈ l, o.2.2.2.length ≤ 67108864) := by
  have hNc : N ≤ c := by rw [hN.out]; exact hl.out.len
  have hcm := hl.out.max
  go_enter Tryd.func5, Tryd.ntmps5
  go_wp2_with fail
  go_loopg [3, 4] N (fun k nv iv wr => ∃ i T : Nat, i ≤ N ∧ nv = .int .i64 T ∧ iv = .int .i64 i ∧ k = N - i ∧ wr = w ∧ T ≤ 140737622573056 ∧ Hid (∀ j (hj : j < l.length), j < i → l[j].2.2.2.length ≤ T))
  case atStart => exact ⟨0, 0, Nat.zero_le _, rfl, rfl, rfl, rfl, by omega, Lib.hid fun j hj h => by omega⟩
  case round =>
    obtain ⟨i, T, hi, rfl, rfl, rfl, rfl, hT, HT⟩ := hrel
    rcases Nat.lt_or_ge i N with hlt | hge
    · rcases Nat.lt_or_ge 67108864 T with hbig | hsm
      · go_wp2_with fail
        go_ret
        exact ⟨_, rfl, rfl, Lib.hid fun h => by simp at h <;> omega⟩
      · have hil : i < l.length := by rw [← hN.out]; exact hlt
        obtain ⟨g, o, A', c', rfl, -, c0, c1, c2, c3, hs⟩ := hl.out.op hil
        have hbi := hb.out _ (List.getElem_mem hil)
        obtain ⟨n, hn⟩ : ∃ n, n = l[i].2.2.2.length := ⟨_, rfl⟩
        rw [← hn] at hbi c3
        have HNN := Lib.hid hn
        have hs1 := hs.len
        have hs2 := hs.max
        rw [← hn] at hs1
        clear c0 c1 c2 hs hn
        go_wp2_with fail
        go_roundg (N - (i + 1))
        case measure => omega
        case rel => exact ⟨i + 1, T + 1 + n, by omega, by go_num, by go_num, rfl, rfl, by omega, Lib.hid fun j hj h => by
          rcases Nat.lt_or_ge j i with h1 | h1
          · have := HT.out j hj h1; omega
          · obtain rfl : j = i := by omega
            have := HNN.out; omega⟩
    · obtain rfl : i = N := by omega
      go_wp2_with fail
      go_ret
      refine ⟨_, rfl, rfl, Lib.hid fun h o ho => ?_⟩
      obtain ⟨j, hj, rfl⟩ := List.getElem_of_mem ho
      have := HT.out j hj (by rw [hN.out]; exact hj)
      simp at h
      omega
section
variable {w : World} {v : Value} {st : St}
theorem Side.apart {U : Blocks} {u : Value} {st' : St} (s : SideP U w v st) (s' : SideR U w u st') : ∀ b, ptrB v b → ¬ ptrB u b := by
  intro b hb hb'
  match st, st', s, s' with
  | none, _, s, _ => rw [show v = _ from s] at hb; simp [ptrB] at hb
  | some (m, p, h), none, _, s' => rw [show u = _ from s'] at hb'; simp [ptrB] at hb'
  | some (m, p, h), some (m', p', h'), s, s' =>
    obtain ⟨g, rfl, hg, S, ⟨_, _, _, _, _, _, hs⟩, -⟩ := s
    obtain ⟨g', rfl, hg', S', ⟨_, _, _, _, _, _, hs'⟩, -⟩ := s'
    obtain rfl := hb.is
    obtain rfl := hb'.is
    have := hs.blk.symm.trans hs'.blk
    simp only [Option.some.injEq, Obj.cells.injEq] at this
    exact absurd this.2.1 (by decide)
end
end Go.Proofs.YtejjmjbkpodolaaDoor
