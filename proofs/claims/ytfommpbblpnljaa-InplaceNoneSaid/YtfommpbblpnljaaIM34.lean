/- Texts that lead to the claim, one behind the other: The walks of (outs.Out).Flush, Write. Condition: the counts are below 2^40. -/
import Derived.Test.YtfommpbblpnljaaIM33
namespace Go.Proofs.Ytfommpbblpnljaa
open Go.RowKit Go.ChangeShapes Go.WideShapes Go.Deep

section
variable {w w' : World} {F X G : Blocks} {d : Nat} {s : Disk.St} {t : Disk.Nm} {o dB tB : Nat} {ou : Disk.Ou} {A : Option Addr} {c : Nat} {cnt : Int}
set_option maxRecDepth 100000 in
theorem handOn_none (H : Hid (OutB w F X G d s t o dB tB ou A c cnt)) (hne : Hid (ou.held = [])) :
    Calls Try.prog 65 #[.pointer (some ⟨o, 0, none⟩)] w (OutCall w G d t o dB tB (s.handOn t ou)) := by
  have k2 : w.cell? ⟨o, 2, none⟩ = some (.slice A 0 c) := by
    have := (cell_of_row w o 2 _ _ (0, 0) H.out.out).trans rfl
    rw [this, hne.out]; rfl
  have hol : o < w.heap.size := (H.out.ub o H.out.Xo).1
  have hmc : 0 ≤ c := Nat.zero_le _
  go_enter_defers Try.func65, Try.ntmps65
  go_wp2_with fail
  refine ⟨_, results_tmp rfl _ _ _, ?_⟩
  have hho : s.handOn t ou = (s, ou, 0) := by unfold Disk.St.handOn; rw [if_pos hne.out]
  rw [hho]
  have hb : Below w.heap.size w ((w.alloc (.cells #[.pointer (some ⟨o, 0, none⟩)] 33)).alloc (.cells #[.int .i64 0] 3)) := Below.alloc (Below.alloc (Below.refl _ _) (Nat.le_refl _) _) (by simp) _
  exact ⟨rfl, (H.out.far hb).at_, Only.of_below hb G⟩
theorem handOn_any (H : Hid (OutB w F X G d s t o dB tB ou A c cnt)) (hf : Hid (Disk.Fine s)) {k : Nat} (hk : Hid (Disk.Small k s)) (hkb : k ≤ 1099511627776) (ht : t.length ≤ maxLen) (hlen : ou.held.length ≤ 1099511627776) :
    Calls Try.prog 65 #[.pointer (some ⟨o, 0, none⟩)] w (OutCall w G d t o dB tB (s.handOn t ou)) := by
  by_cases h : ou.held = []
  · exact handOn_none H (Lib.hid h)
  · exact handOn_some H hf hk hkb ht (Lib.hid h) hlen
set_option maxRecDepth 100000 in
theorem flush_any (HS : Hid (OutS w G d s t o dB tB ou)) (hf : Hid (Disk.Fine s)) {k : Nat} (hk : Hid (Disk.Small k s)) (hkb : k ≤ 1099511627776) (ht : t.length ≤ maxLen) (hlen : ou.held.length ≤ 1099511627776) :
    Calls Try.prog 35 #[.pointer (some ⟨o, 0, none⟩)] w (OutCall w G d t o dB tB (s.ouFlush t ou)) := by
  obtain ⟨F, X, A, c, cnt, H⟩ := HS.out
  have HE := Lib.hid (err_any (Lib.hid H))
  have HH := Lib.hid (handOn_any (Lib.hid H) hf hk hkb ht hlen)
  have HO := Lib.hid H
  obtain ⟨er, her⟩ : ∃ er, er = ou.err := ⟨_, rfl⟩
  rw [← her] at HE
  have HER := Lib.hid her
  clear H her
  by_cases h0 : er = 0
  · have hfl : s.ouFlush t ou = s.handOn t ou := by unfold Disk.St.ouFlush; rw [if_neg (by rw [← HER.out, h0]; simp)]
    rw [hfl]
    subst h0
    have HFL := Lib.hid hfl
    clear hfl
    go_enter Try.func35, Try.ntmps35
    go_wp2_with fail
    refine HE.out.mono ?_
    rintro e w1 ⟨rfl, rfl⟩
    go_wp2_with fail
    refine HH.out.mono ?_
    rintro e w2 ⟨rfl, h1, h2⟩
    have H1 := Lib.hid h1
    have H2 := Lib.hid h2
    clear h1 h2
    go_wp2_with fail
    go_ret
    exact ⟨rfl, H1.out, H2.out⟩
  · have hb : (er != 0) = true := bne_iff_ne.2 h0
    have hfl : s.ouFlush t ou = (s, ou, er) := by unfold Disk.St.ouFlush; rw [if_pos (by rw [← HER.out]; exact h0), ← HER.out]
    rw [hfl]
    clear hfl h0
    go_enter Try.func35, Try.ntmps35
    go_wp2_with fail
    refine HE.out.mono ?_
    rintro e w1 ⟨rfl, rfl⟩
    go_wp2_with fail
    go_ret
    exact ⟨rfl, (HO.out.far (Below.refl _ _)).at_, Only.of_below (Below.refl _ _) G⟩
/-- Bytes more are held. -/
theorem OutB.grown (h : OutB w F X G d s t o dB tB ou A c cnt) {w1 : World} {l : List UInt8} {A' : Option Addr} {n' c' : Nat} (hown : Own Rep.byte 5 w1 0 nob (.slice A' n' c') (ou.held ++ l)) (hg : w.grownBy w1 (Value.slice A ou.held.length c).ownBlock)
    (hat : (Value.slice A' n' c').ownBlock = (Value.slice A ou.held.length c).ownBlock ∨ (Value.slice A' n' c').ownBlock = some w.heap.size) :
    OutB (w1.setCell ⟨o, 2, none⟩ (.slice A' n' c')) F (fun b => X b ∨ (w.heap.size ≤ b ∧ b < w1.heap.size)) (grow G w (w1.setCell ⟨o, 2, none⟩ (.slice A' n' c'))) d s t o dB tB ⟨ou.held ++ l, ou.err⟩ A' c' cnt ∧ Only G w (w1.setCell ⟨o, 2, none⟩ (.slice A' n' c')) := by
  have hn' : n' = (ou.held ++ l).length := by
    obtain ⟨A2, n2, c2, he, hn2, -, -⟩ := hown.form
    simp only [Value.slice.injEq] at he
    rw [he.2.1, hn2.out]
  have ho1 : Only X w w1 := Only.of_grown hg X fun b hb => h.Xh b hb.symm
  have ho : Only X w (w1.setCell ⟨o, 2, none⟩ (.slice A' n' c')) := ho1.setCell (.inl h.Xo) _
  have hob : (Value.slice A ou.held.length c).ownBlock ≠ some o := fun e => by
    obtain ⟨cur, hc⟩ := h.held.content e
    rw [h.out] at hc
    injection hc with hc
    injection hc with _ e2
    exact absurd e2 (by decide)
  have hout1 : w1.heap[o]? = w.heap[o]? := hg.block o (h.ub o h.Xo).1 fun e => hob e.symm
  have hsz : (w1.setCell ⟨o, 2, none⟩ (.slice A' n' c')).heap.size = w1.heap.size := by simp [World.setCell]
  have hbx : ∀ b ty v, Boxed w b ty v → ty ≠ 106 → ty ≠ 5 → Boxed (w1.setCell ⟨o, 2, none⟩ (.slice A' n' c')) b ty v := fun b ty v hv h1 h2 => by
    refine boxed_far' ((hg.block b hv.lt fun e => ?_).trans hv) (ne_cells hv h.out h1)
    obtain ⟨cur, hc⟩ := h.held.content e.symm
    exact ne_cells hv hc h2 rfl
  obtain ⟨loc, blk, bn, bo, rowv, pA, pC, hB⟩ := h.disk
  refine ⟨{ disk := (hB.only ho fun b hb hx => (h.ub b hx).2 hb).at_, out := ?_, held := ?_, bd := hbx _ _ _ h.bd (by decide) (by decide), bt := hbx _ _ _ h.bt (by decide) (by decide), Xo := .inl h.Xo, Xd := .inl h.Xd, Xt := .inl h.Xt, Xh := fun b hb => ?_,
            ub := fun b hb => ?_, gf := fun b hb => .inl (h.gf b hb), gx := fun b hb => ?_, lt := grow_lt h.lt ho.size }, ho.mono h.gx⟩
  · simp only [World.setCell, Array.getElem?_modify, hout1, h.out, ← hn']
    simp
  · rw [← hn']
    refine hown.only (Only.setCell (Only.refl (fun b => b = o) w1) (.inl rfl) _) fun b hb e => ?_
    subst e
    obtain ⟨cur, hc⟩ := hown.content hb
    rw [hout1, h.out] at hc
    injection hc with hc
    injection hc with _ e2
    exact absurd e2 (by decide)
  · rw [← hn'] at hb
    have hlt := (hown.block_lt hb).2
    rcases hat with e | e
    · exact .inl (h.Xh b (e ▸ hb))
    · rw [e] at hb; cases hb; exact .inr ⟨Nat.le_refl _, hlt⟩
  · rw [hsz]
    rcases hb with hb | hb
    · exact ⟨Nat.lt_of_lt_of_le (h.ub b hb).1 hg.size, (h.ub b hb).2⟩
    · exact ⟨hb.2, fun hf => by have := h.lt b (h.gf b hf); omega⟩
  · rcases hb with hb | hb
    · exact .inl (h.gx b hb)
    · exact .inr ⟨hb.1, by rw [hsz]; exact hb.2⟩
end
end Go.Proofs.Ytfommpbblpnljaa
