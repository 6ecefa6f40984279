/- Texts that lead to the claim, one behind the other: The document's find is entered. No conditions. | The document's disk starts: the walk of galleyref03.(Disk).Start. Condition: the list that is handed in is below 2^40. | The document's disk: Power, Done, Pending, Off. No conditions. | The names of the document's disk: the walk of galleyref03.(Disk).Names. Condition: they are below 2^31. -/
import Derived.Test.YtncpeogkccjmcaaGreatDoorTK21
import Derived.Test.YtncpeogkccjmcaaGreatDoorTK22
import Derived.Test.YtncpeogkccjmcaaGreatDoorTK23
import Derived.Deep.RegionHeld3
import Derived.Deep.Cut
import Derived.Deep.LoopGhost
namespace Go.Proofs.YtncpeogkccjmcaaGreatDoor
open Go.RowKit Go.ChangeShapes Go.WideShapes Go.Deep

theorem enters_find : ∀ args w, (callFunc 93 args).run Tryz.prog w = .ok (.enter 93 args) w := enters_of Tryz.func93 (by kernel_rfl) rfl
end Go.Proofs.YtncpeogkccjmcaaGreatDoor
namespace Go.Proofs.YtncpeogkccjmcaaGreatDoor
open Go.RowKit Go.ChangeShapes Go.WideShapes Go.Deep

/-- 's[:k]'. -/
theorem run_slice_to {P : Program} {w : World} {t e : TypeId} {size bytes : Nat} (hT : SliceType P t e size bytes) (A : Option Addr) (n c k : Nat) (hk : k ≤ c) : (Instr.sliceAt t (.slice A n c) none (some (.int .i64 (k : Int))) none).run P w = .ok (.slice A k c) w := by
  obtain ⟨i, z, hi, hz, hs, hb, hzs⟩ := hT.hi
  have he : P.elem t = e := by simp [Program.elem, hT.ht]
  have ht' : P.underlying t = some (.slice (P.elem t)) := by rw [he]; exact hT.ht
  rw [run_sliceAt_slice (P := P) (w := w) t _ _ _ _ ht', run_slice_h (P := P) (w := w) t A n c ht' .i64 k (by omega) (by omega), he]
  simp [sizeOf, typeInfo, hi, sliced, Result.andThen]
  intro _
  cases A <;> simp [Addr.add]
theorem Disk.cut_syn30 {e : Disk.Nd} (h : e.syn ≤ e.bytes.length) (k : Option Int) : (Disk.St.cutNd e k).syn = (Disk.St.cutNd e k).bytes.length := by
  cases k with
  | none =>
    show e.syn + 0 = (e.bytes.take (e.syn + 0)).length
    rw [List.length_take]; omega
  | some k =>
    have h1 : Disk.St.left k (e.bytes.length - e.syn) ≤ e.bytes.length - e.syn := Nat.min_le_right _ _
    show e.syn + Disk.St.left k (e.bytes.length - e.syn) = (e.bytes.take (e.syn + Disk.St.left k (e.bytes.length - e.syn))).length
    rw [List.length_take]; omega
theorem own_ent {w : World} {F : Blocks} {B2 : Nat} {v : Value} {l : Disk.Fo} (h : Own Rep.ent 116 w B2 nob v l) (hB : ∀ b, B2 ≤ b → b < w.heap.size → F b) : EntF w F v l := EntF.of_own h hB
/-- While it starts: the folder that comes, the files that have been cut. -/
def Sta (w0 w : World) (F : Blocks) (d : Nat) (s : Disk.St) (keep : List Int) (l : Disk.Fo) (lv : Value) (j : Nat) : Prop :=
  RefFA w (grow F w0 w) d { s with all := Disk.St.cuts keep 0 (l.take j) s.all } ∧ EntF w (grow F w0 w) lv l ∧ Only F w0 w
theorem Sta.next {w0 w w' : World} {F : Blocks} {d : Nat} {s t : Disk.St} {keep : List Int} {l : Disk.Fo} {lv : Value} {j : Nat} (h : Sta w0 w F d s keep l lv j) (hr : RefFA w' (grow (grow F w0 w) w w') d t) (ho : Only (grow F w0 w) w w') (he : ∀ b, EntIn w (grow F w0 w) b → w'.heap[b]? = w.heap[b]?) (ht : t = { s with all := Disk.St.cuts keep 0 (l.take (j + 1)) s.all }) : Sta w0 w' F d s keep l lv (j + 1) := by
  have h1 := h.2.2.size
  have h2 := ho.size
  have hG : ∀ b, grow (grow F w0 w) w w' b → grow F w0 w' b := by
    rintro b ((hb | hb) | hb)
    · exact .inl hb
    · exact .inr ⟨hb.1, Nat.lt_of_lt_of_le hb.2 h2⟩
    · exact .inr ⟨Nat.le_trans h1 hb.1, hb.2⟩
  have hlt : ∀ b, grow F w0 w' b → b < w'.heap.size := fun b hb => hb.elim (fun hb => by
    obtain ⟨_, _, _, _, _, _, hR⟩ := h.1
    exact Nat.lt_of_lt_of_le (hR.lt b (.inl hb)) h2) fun hb => hb.2
  subst ht
  exact ⟨hr.up hG hlt, h.2.1.same (fun b hb => hb.elim .inl fun hb => .inr ⟨hb.1, Nat.lt_of_lt_of_le hb.2 h2⟩) he, h.2.2.trans ho fun b hb => hb.elim .inl fun hb => .inr hb.1⟩
theorem cuts_snoc (keep : List Int) : ∀ (l : Disk.Fo) (i : Nat) (a : List Disk.Nd) (p : Disk.Nm × Nat), Disk.St.cuts keep i (l ++ [p]) a = (Disk.St.cuts keep i l a).modify p.2 fun d => Disk.St.cutNd d keep[i + l.length]?
  | [], i, a, p => by simp [Disk.St.cuts]
  | q :: r, i, a, p => by
    show Disk.St.cuts keep (i + 1) (r ++ [p]) _ = _
    rw [cuts_snoc keep r (i + 1) _ p]
    simp only [Disk.St.cuts, List.length_cons]
    congr 2
    funext d
    rw [show i + 1 + r.length = i + (r.length + 1) by omega]
section
variable {w : World} {F : Blocks} {d : Nat} {s : Disk.St}
set_option linter.unusedSimpArgs false in
set_option maxRecDepth 100000 in
set_option maxHeartbeats 8000000 in
theorem refStart_any (dir : Int) (A : Option Addr) (kn kc : Nat) (keep : List Int) (S : Blocks) (HA : Hid (RefFA w F d s)) (hf : Hid (Disk.Fine s)) (hkn : Hid (kn = keep.length)) (hl : Hid (SliceAt (Rep.int .i64) w S A kc keep)) (hS : Hid (∀ b, S b → b < w.heap.size ∧ ¬ F b)) (hnb : kn ≤ 1099511627776) (hrl : s.row.length ≤ 1099511627776) :
    Calls Tryz.prog 52 #[.pointer (some ⟨d, 0, none⟩), .int .i64 dir, .slice A kn kc] w fun e w' => e = .returned (.tuple #[]) ∧ RefFA w' (grow F w w') d (s.start dir keep) ∧ Only F w w' := by
  obtain ⟨av, nv, ov, rv, pv, vs, hR⟩ := HA.out
  have hkc : kn ≤ kc := by rw [hkn.out]; exact hl.out.len
  have hkm := hl.out.max
  have c1 := hR.cell 1 _ rfl
  obtain ⟨on, hon⟩ : ∃ x, x = s.on := ⟨_, rfl⟩
  rw [← hon] at c1
  have HRX := Lib.hid hR
  cases on
  case true =>
    have HE : Hid (s.start dir keep = s) := Lib.hid (by unfold Disk.St.start; rw [if_pos hon.symm])
    clear hR hon
    go_enter Tryz.func52, Tryz.ntmps52
    go_wp2_with fail
    refine bodyPost_ret (results_none rfl _ _ _) rfl ?_
    rw [HE.out]
    exact ⟨rfl, (HRX.out.up (fun _ h => .inl h) (grow_lt HRX.out.lt (Nat.le_refl _))).at_, Only.refl _ _⟩
  obtain ⟨OA, OC, hov, hso⟩ := hR.old
  subst hov
  obtain ⟨RA, rl, RC, hrv, hrl2, hrc, hrm⟩ := hR.row.form
  subst hrv
  have hnc := hso.len
  have hcm := hso.max
  obtain ⟨on2, hon2⟩ : ∃ x, x = s.old.length := ⟨_, rfl⟩
  have c4 := hR.cell 4 _ rfl
  have c5 := hR.cell 5 _ rfl
  rw [← hon2] at c4 hnc
  have hrlb : rl ≤ 1099511627776 := by rw [hrl2.out]; exact hrl
  obtain ⟨ix, hix⟩ : ∃ ix, ix = Disk.St.left dir rl := ⟨_, rfl⟩
  have HLF : Hid (∀ W, Calls Tryz.prog 96 #[.int .i64 dir, .int .i64 (rl : Nat)] W fun e w' => e = .returned (.int .i64 (ix : Nat)) ∧ w' = W) := Lib.hid fun W => by rw [hix]; exact left_any dir rl W
  have hixr : ix ≤ rl := by rw [hix]; exact Nat.min_le_right _ _
  obtain ⟨l, hll⟩ : ∃ l, l = s.at_ ix := ⟨_, rfl⟩
  have HLE := Lib.hid hll
  have HST : Hid (s.start dir keep = { s with now := l, old := l, row := [], on := true, all := Disk.St.cuts keep 0 l s.all }) := Lib.hid (by unfold Disk.St.start; rw [if_neg (by rw [← hon]; simp), ← hrl2.out, ← hix, hll]; rfl)
  have HON := Lib.hid hon2
  have HIX := Lib.hid hix
  have hcap := hf.out.cap
  have honb : on2 ≤ 64 := by rw [hon2]; exact hcap 0
  have HCAP := Lib.hid hcap
  have HSO : Hid (EntF w (grow F w w) (.slice OA on2 OC) s.old) := Lib.hid (by rw [hon2]; exact EntF.same ⟨OA, OC, rfl, hso⟩ (fun _ h => .inl h) fun _ _ => rfl)
  have HRL := hrl2
  clear hR hon hon2 hix hll hso hcap hrl2 hrl
  go_enter Tryz.func52, Tryz.ntmps52
  go_wp2_with fail
  refine (HLF.out _).mono ?_
  rintro e w2 ⟨rfl, hw2⟩
  subst hw2
  go_wp2_with fail
  clear c1 c4 c5
  go_loopg [6, 7] ix (fun q s6 s7 wr => ∃ (j : Nat) (A6 : Option Addr) (n6 c6 : Nat), q = ix - j ∧ j ≤ ix ∧ s7 = .int .i64 j ∧ s6 = .slice A6 n6 c6 ∧ n6 ≤ 64 ∧ n6 ≤ c6 ∧ c6 ≤ 9223372036854775807 ∧ Hid (n6 = (s.at_ j).length) ∧ Hid (EntF wr (grow F w2 wr) (.slice A6 n6 c6) (s.at_ j)) ∧ Hid (Below w2.heap.size w2 wr))
  case atStart => exact ⟨0, OA, on2, OC, rfl, by omega, rfl, rfl, honb, by assumption, by assumption, HON, HSO, Lib.hid (Below.refl _ _)⟩
  case round =>
    obtain ⟨j, A6, n6, c6, rfl, hj, rfl, rfl, hn6, hnc6, hcm6, HN6, HE6, HB⟩ := hrel
    have HRY := Lib.hid (HRX.out.far HB.out)
    by_cases hjx : j < ix
    · have hjr : j < s.row.length := by rw [← HRL.out]; omega
      have c5 := HRY.out.cell 5 _ rfl
      obtain ⟨RA2, RC2, he2, hsr⟩ := HRY.out.row.slice
      simp only [Value.slice.injEq] at he2
      obtain ⟨rfl, -, rfl⟩ := he2
      obtain ⟨rg, ro, rcs, hRA, -, hrcs, rfl, hr1, hr2, hr3⟩ := hsr.at_ hjr
      subst hRA
      obtain ⟨ch, hch⟩ : ∃ ch, ch = s.row[j] := ⟨_, rfl⟩
      rw [← hch] at hrcs hr1 hr2 hr3
      obtain ⟨cs1, hcs1⟩ : ∃ x : ByteArray, x = ⟨ch.src.toArray⟩ := ⟨_, rfl⟩
      obtain ⟨cd1, hcd1⟩ : ∃ x : ByteArray, x = ⟨ch.dst.toArray⟩ := ⟨_, rfl⟩
      have e0 : wr.cell? ⟨rg, ro + j * 3, none⟩ = some (.string cs1) := by have := hrcs 0 _ rfl; rw [show sv ch.src = .string cs1 by rw [hcs1]; rfl] at this; simpa [Rep.rchg] using this
      have e1 : wr.cell? ⟨rg, ro + j * 3 + 1, none⟩ = some (.string cd1) := by have := hrcs 1 _ rfl; rw [show sv ch.dst = .string cd1 by rw [hcd1]; rfl] at this; simpa [Rep.rchg] using this
      have e2 : wr.cell? ⟨rg, ro + j * 3 + 2, none⟩ = some (.int .i64 ch.id) := by have := hrcs 2 _ rfl; simpa [Rep.rchg] using this
      have hcho : chgOf cs1 cd1 ch.id = ch := by unfold chgOf; rw [hcs1, hcd1]
      obtain ⟨A9, C9, he9, hs9⟩ := HE6.out
      simp only [Value.slice.injEq] at he9
      obtain ⟨rfl, -, rfl⟩ := he9
      have hnn := hf.out.good.names ch (by rw [hch]; exact List.getElem_mem hjr)
      have HBH := Lib.hid (behind_any (w := wr) (s.at_ j) cs1 cd1 ch.id A6 n6 c6 _ HN6 (Lib.hid hs9) (Lib.hid fun b hb => hb.lt) (by omega) (Lib.hid (by rw [hcd1]; simpa [ByteArray.size] using hr2)) hr3 (Lib.hid (by rw [hcs1, hcd1]; simpa using hnn)))
      rw [hcho] at HBH
      have hat : Disk.behind (s.at_ j) ch = s.at_ (j + 1) := by
        unfold Disk.St.at_
        rw [List.take_succ_eq_append_getElem hjr, List.foldl_append, hch]; rfl
      rw [hat] at HBH
      have hji : (j : Int) < (ix : Int) := by omega
      have hjrl : (j : Int) < (rl : Int) := by omega
      have hcj := HCAP.out (j + 1)
      have HCJ := Lib.hid hcj
      clear hat hcho hcs1 hcd1 hch hrcs hsr hs9 hr1 hr2 hr3 hnn hjr hcj
      go_wp2_with fail
      refine HBH.out.mono ?_
      rintro e w3 ⟨A7, n7, c7, rfl, hn7, -, hnc7, hcm7, hown7, hb7⟩
      have HN7 := hn7
      have HB7 := Lib.hid (HB.out.trans (hb7.mono HB.out.size))
      have HE7 : Hid (EntF w3 (grow F w2 w3) (.slice A7 n7 c7) (s.at_ (j + 1))) := Lib.hid (EntF.of_own hown7 fun b h1 h2 => .inr ⟨Nat.le_trans HB.out.size h1, h2⟩)
      have hn7b : n7 ≤ 64 := by rw [HN7.out]; exact HCJ.out
      clear hn7 hown7 hb7 e0 e1 e2 c5
      go_wp2_with fail
      go_roundg (ix - (j + 1))
      case measure => omega
      case rel => exact ⟨j + 1, A7, n7, c7, by omega, by omega, by go_num, rfl, hn7b, hnc7, hcm7, HN7, HE7, HB7⟩
    · obtain rfl : j = ix := by omega
      rw [← HLE.out] at HN6 HE6
      have HS0 : Hid (Sta w2 wr F d s keep l (.slice A6 n6 c6) 0) := Lib.hid ⟨by rw [List.take_zero]; exact (HRY.out.up (fun _ h => .inl h) (grow_lt HRX.out.lt HB.out.size)).at_, HE6.out, Only.of_below HB.out F⟩
      have HHV : Hid (∀ i ∈ Disk.ids l, i < s.all.length) := Lib.hid (by rw [HLE.out]; exact hf.out.good.have_ j)
      have HKP : Hid (∀ u, Only F w2 u → SliceAt (Rep.int .i64) u S A kc keep) := Lib.hid fun u hu => hl.out.keep (fun _ h => h) (hu.same hS.out)
      clear hjx HE6 HB HRY hj
      go_wp2_with fail
      go_loopg [8] n6 (fun q s8 wr3 => ∃ (i : Nat), q = n6 - i ∧ i ≤ n6 ∧ s8 = .int .i64 i ∧ Hid (Sta w2 wr3 F d s keep l (.slice A6 n6 c6) i))
      case atStart => exact ⟨0, rfl, Nat.zero_le _, rfl, HS0⟩
      case round =>
      clear HS0
      obtain ⟨i, rfl, hi, rfl, HT⟩ := hrel
      obtain ⟨w4, rfl⟩ : ∃ X : World, X = wr := ⟨_, rfl⟩
      obtain ⟨av4, nv4, ov4, rv4, pv4, vs4, hR4⟩ := HT.out.1
      have HR4 := Lib.hid hR4
      by_cases hin : i < n6
      · have hil : i < l.length := by rw [← HN6.out]; exact hin
        obtain ⟨A9, C9, he9, hs9⟩ := HT.out.2.1
        simp only [Value.slice.injEq] at he9
        obtain ⟨rfl, -, rfl⟩ := he9
        obtain ⟨g2, o2, hA6, hg2, k0, kid, -, -⟩ := hs9.ent hil
        subst hA6
        obtain ⟨ii, hii⟩ : ∃ ii, ii = (l[i]).2 := ⟨_, rfl⟩
        rw [← hii] at kid
        have hia : ii < s.all.length := by rw [hii]; exact HHV.out _ (List.mem_map.2 ⟨_, List.getElem_mem hil, rfl⟩)
        have hiv : ii < vs4.length := by rw [hR4.len]; show ii < (Disk.St.cuts keep 0 (l.take i) s.all).length; rw [Disk.cuts_len]; exact hia
        obtain ⟨g, n, c, hav, hn, hFg, hgd, n0, n1, n2, hfr, -, -⟩ := hR4.node hiv
        subst hav
        have c2 := hR4.cell 2 _ rfl
        have hall : (Disk.St.cuts keep 0 (l.take i) s.all)[ii]? = some (vs4[ii]).1 := by
          have := hR4.is_
          dsimp only at this
          rw [← this, List.getElem?_map, List.getElem?_eq_getElem hiv]; rfl
        have hown := hR4.rows.own _ (List.mem_map.2 ⟨vs4[ii], List.getElem_mem hiv, rfl⟩ : ((vs4[ii]).2, (vs4[ii]).1.bytes) ∈ vs4.map fun x => (x.2, x.1.bytes))
        obtain ⟨BA, bn, BC, hbv, hbl, hbc, hbm⟩ := hown.form
        simp only at hbv
        rw [hbv] at n0 hown
        obtain ⟨nd, hnd⟩ : ∃ nd, nd = (vs4[ii]).1 := ⟨_, rfl⟩
        have hbl2 : bn = nd.bytes.length := by rw [hnd]; exact hbl.out
        rw [← hnd] at n1 hown hall
        have hcz : nd.syn ≤ nd.bytes.length ∧ nd.bytes.length ≤ 16777216 := by
          have h0 : ∀ k (e : Disk.Nd), s.all[k]? = some e → e.syn ≤ e.bytes.length ∧ e.bytes.length ≤ 16777216 := fun k e he => ⟨hf.out.good.sync e (List.mem_of_getElem? he), hf.out.big e (List.mem_of_getElem? he)⟩
          exact Disk.cuts_all (R := fun _ (e : Disk.Nd) => e.syn ≤ e.bytes.length ∧ e.bytes.length ≤ 16777216) keep (fun k (e : Disk.Nd) q he => by
            refine ⟨Nat.le_of_eq (Disk.cut_syn30 he.1 q), ?_⟩
            show (e.bytes.take _).length ≤ _
            rw [List.length_take]; have := he.2; omega) (l.take i) 0 s.all h0 ii nd hall
        obtain ⟨BA2, BC2, he2, hsb⟩ := hown.slice
        simp only [Value.slice.injEq] at he2
        obtain ⟨rfl, -, rfl⟩ := he2
        obtain ⟨sy, hsy⟩ : ∃ sy, sy = nd.syn := ⟨_, rfl⟩
        rw [← hsy] at n1
        have hsyb : sy ≤ bn := by rw [hsy, hbl2]; exact hcz.1
        have hbnb : bn ≤ 16777216 := by rw [hbl2]; exact hcz.2
        obtain ⟨x, hx⟩ : ∃ x : Nat, x = (match keep[i]? with | none => 0 | some k => Disk.St.left k (bn - sy)) := ⟨_, rfl⟩
        have hxb : x ≤ bn - sy := by
          rw [hx]
          cases keep[i]? with
          | none => exact Nat.zero_le _
          | some k => exact Nat.min_le_right _ _
        have HCUT : Hid (Disk.St.cutNd nd keep[i]? = ⟨nd.bytes.take (sy + x), sy + x, nd.bad⟩) := Lib.hid (by
          unfold Disk.St.cutNd
          rw [hx, hsy, hbl2]
          cases keep[i]? <;> rfl)
        have HX := Lib.hid hx
        have HSYE := Lib.hid hsy
        have HND := Lib.hid hnd
        have HBL := Lib.hid hbl2
        have HALL := Lib.hid hall
        have HII := Lib.hid hii
        have HIV := Lib.hid hiv
        have HCZ := Lib.hid hcz
        have HCP : Hid (∀ W, Below w4.heap.size w4 W → Calls Tryz.prog 26 #[.slice BA (sy + x) BC] W fun e w' => ∃ v, e = .returned v ∧ Own Rep.byte 5 w' W.heap.size nob v (nd.bytes.take (sy + x)) ∧ Below W.heap.size W w') := Lib.hid fun W hb =>
          copied_any BA (sy + x) BC (nd.bytes.take (sy + x)) W _ (Lib.hid (by rw [List.length_take, ← hbl2]; omega)) (Lib.hid ((hsb.keep (fun _ h => h) (Same.of_below hb fun b h => h.elim (fun h => h.2.1) fun h => h.elim)).cutTo (j := sy + x) (by rw [← hbl2]; omega))) (by omega)
        have hinl : (ii : Int) < (n : Int) := by rw [hn.out]; omega
        have hini : (i : Int) < (n6 : Int) := by omega
        have hin0 : (0 : Int) ≤ (i : Int) := Int.natCast_nonneg _
        have hii0 : (0 : Int) ≤ (ii : Int) := Int.natCast_nonneg _
        have hBn := hs9.len
        have HFR := Lib.hid hfr
        have hglt : g < w4.heap.size := World.block_lt_of_cell? w4 _ n0
        clear hii hia hall hown hbv hbl hnd hbl2 hcz hsb hsy hx hR4 hs9 hgd hn hfr n2 k0
        have HS5 : Hid (∀ u, Below w4.heap.size w4 u → u.cell? ⟨d, 2, none⟩ = some (.slice (some ⟨g, 0, none⟩) n c) ∧ u.cell? ⟨g2, o2 + i * 2 + 1, none⟩ = some (.int .i64 ii)) := Lib.hid fun u hu => ⟨(hu.cell (p := ⟨d, 2, none⟩) (World.block_lt_of_cell? w4 _ c2)).trans c2, (hu.cell (p := ⟨g2, o2 + i * 2 + 1, none⟩) (World.block_lt_of_cell? w4 _ kid)).trans kid⟩
        have HD5 : Hid (Below w4.heap.size w4 w4.drew) := Lib.hid ((Below.refl _ _).drew)
        clear c2 kid
        go_upto_region 10 with fail
        go_cut [9] from 46 to 55 (fun v wc => v = .pointer (some ⟨g, ii * 3, none⟩) ∧ Hid (∃ m, wc = w4.drewN m))
        case first =>
          refine wp_region_held_drew (S := fun u => u.cell? ⟨d, 2, none⟩ = some (.slice (some ⟨g, 0, none⟩) n c) ∧ u.cell? ⟨g2, o2 + i * 2 + 1, none⟩ = some (.int .i64 ii)) (by kernel_rfl) (HS5.out _ HD5.out) (fun hHeld => ?_)
          refine wpAnyH_take (i := 0) (v := ?_) rfl (by kernel_rfl) (by kernel_rfl) (by kernel_rfl) (fun _ _ _ h => h) (Or.inl ⟨by rfl, ?_⟩) (by assumption) ?_
          rotate_left 1
          · (intro w hSw; (try dsimp only at hSw); (try simp only [List.getElem_toArray, List.getElem_cons_succ, List.getElem_cons_zero]); go_simp <;> (try with_reducible rfl))
          try simp only [Act.put, List.getElem_toArray, List.getElem_cons_succ, List.getElem_cons_zero, List.setIfInBounds_toArray, List.set_cons_zero, List.set_cons_succ]
          refine wpAnyH_take (i := 1) (v := ?_) rfl (by kernel_rfl) (by kernel_rfl) (by kernel_rfl) (fun _ _ _ h => h) (Or.inl ⟨by rfl, ?_⟩) (by assumption) ?_
          rotate_left 1
          · (intro w hSw; (try dsimp only at hSw); (try simp only [List.getElem_toArray, List.getElem_cons_succ, List.getElem_cons_zero]); go_simp <;> (try with_reducible rfl))
          try simp only [Act.put, List.getElem_toArray, List.getElem_cons_succ, List.getElem_cons_zero, List.setIfInBounds_toArray, List.set_cons_zero, List.set_cons_succ]
          refine wpAnyH_take (i := 2) (v := ?_) rfl (by kernel_rfl) (by kernel_rfl) (by kernel_rfl) (fun _ _ _ h => h) (Or.inl ⟨by rfl, ?_⟩) (by assumption) ?_
          rotate_left 1
          · (intro w hSw; (try dsimp only at hSw); (try simp only [List.getElem_toArray, List.getElem_cons_succ, List.getElem_cons_zero]); go_simp <;> (try with_reducible rfl))
          try simp only [Act.put, List.getElem_toArray, List.getElem_cons_succ, List.getElem_cons_zero, List.setIfInBounds_toArray, List.set_cons_zero, List.set_cons_succ]
          refine wpAnyH_take (i := 3) (v := ?_) rfl (by kernel_rfl) (by kernel_rfl) (by kernel_rfl) (fun _ _ _ h => h) (Or.inl ⟨by rfl, ?_⟩) (by assumption) ?_
          rotate_left 1
          · (intro w hSw; (try dsimp only at hSw); (try simp only [List.getElem_toArray, List.getElem_cons_succ, List.getElem_cons_zero]); go_simp <;> (try with_reducible rfl))
          try simp only [Act.put, List.getElem_toArray, List.getElem_cons_succ, List.getElem_cons_zero, List.setIfInBounds_toArray, List.set_cons_zero, List.set_cons_succ]
          refine wpAnyH_take (i := 4) (v := ?_) rfl (by kernel_rfl) (by kernel_rfl) (by kernel_rfl) (fun _ _ _ h => h) (Or.inl ⟨by rfl, ?_⟩) (by assumption) ?_
          rotate_left 1
          · (intro w hSw; (try dsimp only at hSw); (try simp only [List.getElem_toArray, List.getElem_cons_succ, List.getElem_cons_zero]); go_simp <;> (try with_reducible rfl))
          try simp only [Act.put, List.getElem_toArray, List.getElem_cons_succ, List.getElem_cons_zero, List.setIfInBounds_toArray, List.set_cons_zero, List.set_cons_succ]
          refine wpAnyH_take (i := 5) (v := ?_) rfl (by kernel_rfl) (by kernel_rfl) (by kernel_rfl) (fun _ _ _ h => h) (Or.inl ⟨by rfl, ?_⟩) (by assumption) ?_
          rotate_left 1
          · (intro w hSw; (try dsimp only at hSw); (try simp only [List.getElem_toArray, List.getElem_cons_succ, List.getElem_cons_zero]); go_simp <;> (try with_reducible rfl))
          try simp only [Act.put, List.getElem_toArray, List.getElem_cons_succ, List.getElem_cons_zero, List.setIfInBounds_toArray, List.set_cons_zero, List.set_cons_succ]
          refine wpAnyH_take (i := 6) (v := ?_) rfl (by kernel_rfl) (by kernel_rfl) (by kernel_rfl) (fun _ _ _ h => h) (Or.inl ⟨by rfl, ?_⟩) (by assumption) ?_
          rotate_left 1
          · (intro w hSw; (try dsimp only at hSw); (try simp only [List.getElem_toArray, List.getElem_cons_succ, List.getElem_cons_zero]); go_simp <;> (try with_reducible rfl))
          try simp only [Act.put, List.getElem_toArray, List.getElem_cons_succ, List.getElem_cons_zero, List.setIfInBounds_toArray, List.set_cons_zero, List.set_cons_succ]
          refine wpAnyH_take (i := 7) (v := ?_) rfl (by kernel_rfl) (by kernel_rfl) (by kernel_rfl) (fun _ _ _ h => h) (Or.inl ⟨by rfl, ?_⟩) (by assumption) ?_
          rotate_left 1
          · (intro w hSw; (try dsimp only at hSw); (try simp only [List.getElem_toArray, List.getElem_cons_succ, List.getElem_cons_zero]); go_simp <;> (try with_reducible rfl))
          try simp only [Act.put, List.getElem_toArray, List.getElem_cons_succ, List.getElem_cons_zero, List.setIfInBounds_toArray, List.set_cons_zero, List.set_cons_succ]
          refine wpAnyH_take (i := 8) (v := ?_) rfl (by kernel_rfl) (by kernel_rfl) (by kernel_rfl) (fun _ _ _ h => h) (Or.inl ⟨by rfl, ?_⟩) (by assumption) ?_
          rotate_left 1
          · (intro w hSw; (try dsimp only at hSw); (try simp only [List.getElem_toArray, List.getElem_cons_succ, List.getElem_cons_zero]); go_simp <;> (try with_reducible rfl))
          try simp only [Act.put, List.getElem_toArray, List.getElem_cons_succ, List.getElem_cons_zero, List.setIfInBounds_toArray, List.set_cons_zero, List.set_cons_succ]
          refine wpAnyH_take (i := 9) (v := ?_) rfl (by kernel_rfl) (by kernel_rfl) (by kernel_rfl) (fun _ _ _ h => h) (Or.inl ⟨by rfl, ?_⟩) (by assumption) ?_
          rotate_left 1
          · (intro w hSw; (try dsimp only at hSw); (try simp only [List.getElem_toArray, List.getElem_cons_succ, List.getElem_cons_zero]); go_simp <;> (try with_reducible rfl))
          try simp only [Act.put, List.getElem_toArray, List.getElem_cons_succ, List.getElem_cons_zero, List.setIfInBounds_toArray, List.set_cons_zero, List.set_cons_succ]
          refine wpAnyH_take (i := 10) (v := ?_) rfl (by kernel_rfl) (by kernel_rfl) (by kernel_rfl) (fun _ _ _ h => h) (Or.inl ⟨by rfl, ?_⟩) (by assumption) ?_
          rotate_left 1
          · (intro w hSw; (try dsimp only at hSw); (try simp only [List.getElem_toArray, List.getElem_cons_succ, List.getElem_cons_zero]); go_simp <;> (try with_reducible rfl))
          try simp only [Act.put, List.getElem_toArray, List.getElem_cons_succ, List.getElem_cons_zero, List.setIfInBounds_toArray, List.set_cons_zero, List.set_cons_succ]
          refine wpAnyH_done (by kernel_rfl) ?_ _
          go_wp2_with fail
          go_meet
          case rel => exact ⟨rfl, Lib.hid ⟨1, rfl⟩⟩
        case rest =>
        obtain ⟨rfl, HWC⟩ := hcut
        obtain ⟨w5, rfl⟩ : ∃ X : World, X = wc := ⟨_, rfl⟩
        have HB5 : Hid (Below w4.heap.size w4 w5) := Lib.hid (by obtain ⟨m, rfl⟩ := HWC.out; exact ⟨rfl, rfl, rfl, Nat.le_refl _, fun _ _ => rfl⟩)
        have HKP5 : Hid (SliceAt (Rep.int .i64) w5 S A kc keep) := Lib.hid (HKP.out w5 (HT.out.2.2.trans (Only.of_below HB5.out nob) fun _ h => h.elim))
        have p0 : w5.cell? ⟨g, ii * 3, none⟩ = some (.slice BA bn BC) := (HB5.out.cell (p := ⟨g, ii * 3, none⟩) hglt).trans n0
        have p1 : w5.cell? ⟨g, ii * 3 + 1, none⟩ = some (.int .i64 sy) := (HB5.out.cell (p := ⟨g, ii * 3 + 1, none⟩) hglt).trans n1
        clear n0 n1 HS5
        obtain ⟨bk, hbk⟩ : ∃ bk, bk = decide (i < kn) := ⟨_, rfl⟩
        have hbk1 : decide ((i : Int) < (kn : Int)) = bk := by rw [hbk]; exact decide_eq_decide.2 (by omega)
        have hbk2 : decide (i < kn) = bk := hbk.symm
        have HBK := Lib.hid hbk
        clear hbk
        go_upto_if 59 with fail
        go_cut [10] from 60 to 74 (fun v wc => v = .int .i64 x ∧ Hid (∃ m, wc = w5.drewN m))
        case first =>
          cases bk
          case true =>
            have hik : i < kn := of_decide_eq_true HBK.out.symm
            clear hbk1 hbk2
            have hil2 : i < keep.length := by rw [← hkn.out]; exact hik
            obtain ⟨kg, ko, kcs, hkA, hkS, hkcs, hki, hkw⟩ := HKP5.out.at_ hil2
            subst hkA
            obtain ⟨kz, hkz⟩ : ∃ kz, kz = keep[i] := ⟨_, rfl⟩
            rw [← hkz] at hki hkw
            subst hki
            have e7 : w5.cell? ⟨kg, ko + i, none⟩ = some (.int .i64 kz) := by have := hkcs.one; rwa [show (Rep.int .i64).n = 1 from rfl, Nat.mul_one] at this
            have hxe : Disk.St.left kz (bn - sy) = x := by rw [HX.out, List.getElem?_eq_getElem hil2, ← hkz]
            have hsub : IntKind.i64.wrap ((bn : Int) - (sy : Int)) = ((bn - sy : Nat) : Int) := by rw [IntWalk.i64_in _ ⟨by omega, by omega⟩]; omega
            have HLF2 : Hid (∀ W, Calls Tryz.prog 96 #[.int .i64 kz, .int .i64 ((bn - sy : Nat) : Int)] W fun e w' => e = .returned (.int .i64 (x : Nat)) ∧ w' = W) := Lib.hid fun W => by rw [← hxe]; exact left_any kz (bn - sy) W
            have hki2 : (i : Int) < (kn : Int) := by omega
            clear hkcs hkz hxe hkw hkS hil2
            have HDD : Hid (Below w5.heap.size w5 w5.drew) := Lib.hid ((Below.refl _ _).drew)
            have HSD : Hid (∀ u, Below w5.heap.size w5 u → u.cell? ⟨kg, ko + i, none⟩ = some (.int .i64 kz) ∧ u.cell? ⟨g, ii * 3, none⟩ = some (.slice BA bn BC) ∧ u.cell? ⟨g, ii * 3 + 1, none⟩ = some (.int .i64 sy)) := Lib.hid fun u hu => ⟨(hu.cell (p := ⟨kg, ko + i, none⟩) (World.block_lt_of_cell? w5 _ e7)).trans e7, (hu.cell (p := ⟨g, ii * 3, none⟩) (World.block_lt_of_cell? w5 _ p0)).trans p0, (hu.cell (p := ⟨g, ii * 3 + 1, none⟩) (World.block_lt_of_cell? w5 _ p1)).trans p1⟩
            go_upto_region 13 with fail
            refine wp_region_held_drew (S := fun u => u.cell? ⟨kg, ko + i, none⟩ = some (.int .i64 kz) ∧ u.cell? ⟨g, ii * 3, none⟩ = some (.slice BA bn BC) ∧ u.cell? ⟨g, ii * 3 + 1, none⟩ = some (.int .i64 sy)) (by kernel_rfl) (HSD.out _ HDD.out) (fun hHeld => ?_)
            refine wpAnyH_take (i := 0) (v := ?_) rfl (by kernel_rfl) (by kernel_rfl) (by kernel_rfl) (fun _ _ _ h => h) (Or.inl ⟨by rfl, ?_⟩) (by assumption) ?_
            rotate_left 1
            · (intro w hSw; (try dsimp only at hSw); (try simp only [List.getElem_toArray, List.getElem_cons_succ, List.getElem_cons_zero]); go_simp <;> (try with_reducible rfl))
            try simp only [Act.put, List.getElem_toArray, List.getElem_cons_succ, List.getElem_cons_zero, List.setIfInBounds_toArray, List.set_cons_zero, List.set_cons_succ]
            refine wpAnyH_take (i := 1) (v := ?_) rfl (by kernel_rfl) (by kernel_rfl) (by kernel_rfl) (fun _ _ _ h => h) (Or.inl ⟨by rfl, ?_⟩) (by assumption) ?_
            rotate_left 1
            · (intro w hSw; (try dsimp only at hSw); (try simp only [List.getElem_toArray, List.getElem_cons_succ, List.getElem_cons_zero]); go_simp <;> (try with_reducible rfl))
            try simp only [Act.put, List.getElem_toArray, List.getElem_cons_succ, List.getElem_cons_zero, List.setIfInBounds_toArray, List.set_cons_zero, List.set_cons_succ]
            refine wpAnyH_take (i := 2) (v := ?_) rfl (by kernel_rfl) (by kernel_rfl) (by kernel_rfl) (fun _ _ _ h => h) (Or.inl ⟨by rfl, ?_⟩) (by assumption) ?_
            rotate_left 1
            · (intro w hSw; (try dsimp only at hSw); (try simp only [List.getElem_toArray, List.getElem_cons_succ, List.getElem_cons_zero]); go_simp <;> (try with_reducible rfl))
            try simp only [Act.put, List.getElem_toArray, List.getElem_cons_succ, List.getElem_cons_zero, List.setIfInBounds_toArray, List.set_cons_zero, List.set_cons_succ]
            refine wpAnyH_take (i := 3) (v := ?_) rfl (by kernel_rfl) (by kernel_rfl) (by kernel_rfl) (fun _ _ _ h => h) (Or.inl ⟨by rfl, ?_⟩) (by assumption) ?_
            rotate_left 1
            · (intro w hSw; (try dsimp only at hSw); (try simp only [List.getElem_toArray, List.getElem_cons_succ, List.getElem_cons_zero]); go_simp <;> (try with_reducible rfl))
            try simp only [Act.put, List.getElem_toArray, List.getElem_cons_succ, List.getElem_cons_zero, List.setIfInBounds_toArray, List.set_cons_zero, List.set_cons_succ]
            refine wpAnyH_take (i := 4) (v := ?_) rfl (by kernel_rfl) (by kernel_rfl) (by kernel_rfl) (fun _ _ _ h => h) (Or.inl ⟨by rfl, ?_⟩) (by assumption) ?_
            rotate_left 1
            · (intro w hSw; (try dsimp only at hSw); (try simp only [List.getElem_toArray, List.getElem_cons_succ, List.getElem_cons_zero]); go_simp <;> (try with_reducible rfl))
            try simp only [Act.put, List.getElem_toArray, List.getElem_cons_succ, List.getElem_cons_zero, List.setIfInBounds_toArray, List.set_cons_zero, List.set_cons_succ]
            refine wpAnyH_take (i := 5) (v := ?_) rfl (by kernel_rfl) (by kernel_rfl) (by kernel_rfl) (fun _ _ _ h => h) (Or.inl ⟨by rfl, ?_⟩) (by assumption) ?_
            rotate_left 1
            · (intro w hSw; (try dsimp only at hSw); (try simp only [List.getElem_toArray, List.getElem_cons_succ, List.getElem_cons_zero]); go_simp <;> (try with_reducible rfl))
            try simp only [Act.put, List.getElem_toArray, List.getElem_cons_succ, List.getElem_cons_zero, List.setIfInBounds_toArray, List.set_cons_zero, List.set_cons_succ]
            refine wpAnyH_take (i := 6) (v := ?_) rfl (by kernel_rfl) (by kernel_rfl) (by kernel_rfl) (fun _ _ _ h => h) (Or.inl ⟨by rfl, ?_⟩) (by assumption) ?_
            rotate_left 1
            · (intro w hSw; (try dsimp only at hSw); (try simp only [List.getElem_toArray, List.getElem_cons_succ, List.getElem_cons_zero]); go_simp <;> (try with_reducible rfl))
            try simp only [Act.put, List.getElem_toArray, List.getElem_cons_succ, List.getElem_cons_zero, List.setIfInBounds_toArray, List.set_cons_zero, List.set_cons_succ]
            refine wpAnyH_take (i := 7) (v := ?_) rfl (by kernel_rfl) (by kernel_rfl) (by kernel_rfl) (fun _ _ _ h => h) (Or.inl ⟨by rfl, ?_⟩) (by assumption) ?_
            rotate_left 1
            · (intro w hSw; (try dsimp only at hSw); (try simp only [List.getElem_toArray, List.getElem_cons_succ, List.getElem_cons_zero]); go_simp <;> (try with_reducible rfl))
            try simp only [Act.put, List.getElem_toArray, List.getElem_cons_succ, List.getElem_cons_zero, List.setIfInBounds_toArray, List.set_cons_zero, List.set_cons_succ]
            refine wpAnyH_take (i := 8) (v := ?_) rfl (by kernel_rfl) (by kernel_rfl) (by kernel_rfl) (fun _ _ _ h => h) (Or.inl ⟨by rfl, ?_⟩) (by assumption) ?_
            rotate_left 1
            · (intro w hSw; (try dsimp only at hSw); (try simp only [List.getElem_toArray, List.getElem_cons_succ, List.getElem_cons_zero]); go_simp <;> (try with_reducible rfl))
            try simp only [Act.put, List.getElem_toArray, List.getElem_cons_succ, List.getElem_cons_zero, List.setIfInBounds_toArray, List.set_cons_zero, List.set_cons_succ]
            refine wpAnyH_take (i := 9) (v := ?_) rfl (by kernel_rfl) (by kernel_rfl) (by kernel_rfl) (fun _ _ _ h => h) (Or.inl ⟨by rfl, ?_⟩) (by assumption) ?_
            rotate_left 1
            · (intro w hSw; (try dsimp only at hSw); (try simp only [List.getElem_toArray, List.getElem_cons_succ, List.getElem_cons_zero]); go_simp <;> (try with_reducible rfl))
            try simp only [Act.put, List.getElem_toArray, List.getElem_cons_succ, List.getElem_cons_zero, List.setIfInBounds_toArray, List.set_cons_zero, List.set_cons_succ]
            refine wpAnyH_take (i := 10) (v := ?_) rfl (by kernel_rfl) (by kernel_rfl) (by kernel_rfl) (fun _ _ _ h => h) (Or.inl ⟨by rfl, ?_⟩) (by assumption) ?_
            rotate_left 1
            · (intro w hSw; (try dsimp only at hSw); (try simp only [List.getElem_toArray, List.getElem_cons_succ, List.getElem_cons_zero]); go_simp <;> (try with_reducible rfl))
            try simp only [Act.put, List.getElem_toArray, List.getElem_cons_succ, List.getElem_cons_zero, List.setIfInBounds_toArray, List.set_cons_zero, List.set_cons_succ]
            refine wpAnyH_take (i := 11) (v := ?_) rfl (by kernel_rfl) (by kernel_rfl) (by kernel_rfl) (fun _ _ _ h => h) (Or.inl ⟨by rfl, ?_⟩) (by assumption) ?_
            rotate_left 1
            · (intro w hSw; (try dsimp only at hSw); (try simp only [List.getElem_toArray, List.getElem_cons_succ, List.getElem_cons_zero]); go_simp <;> (try with_reducible rfl))
            try simp only [Act.put, List.getElem_toArray, List.getElem_cons_succ, List.getElem_cons_zero, List.setIfInBounds_toArray, List.set_cons_zero, List.set_cons_succ]
            refine wpAnyH_take (i := 12) (v := ?_) rfl (by kernel_rfl) (by kernel_rfl) (by kernel_rfl) (fun _ _ _ h => h) (Or.inl ⟨by rfl, ?_⟩) (by assumption) ?_
            rotate_left 1
            · (intro w hSw; (try dsimp only at hSw); (try simp only [List.getElem_toArray, List.getElem_cons_succ, List.getElem_cons_zero]); go_simp <;> (try with_reducible rfl))
            try simp only [Act.put, List.getElem_toArray, List.getElem_cons_succ, List.getElem_cons_zero, List.setIfInBounds_toArray, List.set_cons_zero, List.set_cons_succ]
            refine wpAnyH_take (i := 13) (v := ?_) rfl (by kernel_rfl) (by kernel_rfl) (by kernel_rfl) (fun _ _ _ h => h) (Or.inl ⟨by rfl, ?_⟩) (by assumption) ?_
            rotate_left 1
            · (intro w hSw; (try dsimp only at hSw); (try simp only [List.getElem_toArray, List.getElem_cons_succ, List.getElem_cons_zero]); go_simp <;> (try with_reducible rfl))
            try simp only [Act.put, List.getElem_toArray, List.getElem_cons_succ, List.getElem_cons_zero, List.setIfInBounds_toArray, List.set_cons_zero, List.set_cons_succ]
            refine wpAnyH_ready (rs := [14]) (by kernel_rfl) (by simp) ?_
            refine AllReadyH.cons rfl (fun K hK => ?_) AllReadyH.nil
            go_simp
            refine (HLF2.out _).mono ?_
            rintro e w6 ⟨rfl, hw6⟩
            subst hw6
            go_wp2_with fail
            refine hK.out _ _ (HSD.out _ HDD.out) (fun hHeld => ?_)
            clear hK K
            try simp only [Act.put, List.getElem_toArray, List.getElem_cons_succ, List.getElem_cons_zero, List.setIfInBounds_toArray, List.set_cons_zero, List.set_cons_succ]
            refine wpAnyH_take (i := 15) (v := ?_) rfl (by kernel_rfl) (by kernel_rfl) (by kernel_rfl) (fun _ _ _ h => h) (Or.inl ⟨by rfl, ?_⟩) (by assumption) ?_
            rotate_left 1
            · (intro w hSw; (try dsimp only at hSw); (try simp only [List.getElem_toArray, List.getElem_cons_succ, List.getElem_cons_zero]); go_simp <;> (try with_reducible rfl))
            try simp only [Act.put, List.getElem_toArray, List.getElem_cons_succ, List.getElem_cons_zero, List.setIfInBounds_toArray, List.set_cons_zero, List.set_cons_succ]
            refine wpAnyH_done (by kernel_rfl) ?_ _
            go_wp2_with fail
            go_meet
            case rel => exact ⟨rfl, Lib.hid ⟨1, rfl⟩⟩
          case false =>
            have hik : ¬ i < kn := of_decide_eq_false HBK.out.symm
            have hx0 : x = 0 := by rw [HX.out, List.getElem?_eq_none (by rw [← hkn.out]; omega)]
            clear hbk1 hbk2
            subst hx0
            go_wp2_with fail
            go_meet
            case rel => exact ⟨rfl, Lib.hid ⟨0, rfl⟩⟩
        case rest =>
        obtain ⟨rfl, HWC6⟩ := hcut
        obtain ⟨w6, rfl⟩ : ∃ X : World, X = wc := ⟨_, rfl⟩
        have HB6 : Hid (Below w5.heap.size w5 w6) := Lib.hid (by obtain ⟨m, rfl⟩ := HWC6.out; exact ⟨rfl, rfl, rfl, Nat.le_refl _, fun _ _ => rfl⟩)
        have HB46 := Lib.hid (HB5.out.trans (HB6.out.mono HB5.out.size))
        have q0 : w6.drew.cell? ⟨g, ii * 3, none⟩ = some (.slice BA bn BC) := (HB6.out.cell (p := ⟨g, ii * 3, none⟩) (World.block_lt_of_cell? w5 _ p0)).trans p0
        have q1 : w6.drew.cell? ⟨g, ii * 3 + 1, none⟩ = some (.int .i64 sy) := (HB6.out.cell (p := ⟨g, ii * 3 + 1, none⟩) (World.block_lt_of_cell? w5 _ p1)).trans p1
        have HD6 : Hid (Below w4.heap.size w4 w6.drew) := Lib.hid (HB46.out.drew)
        obtain ⟨u, hu⟩ : ∃ u, u = sy + x := ⟨_, rfl⟩
        have hwr : IntKind.i64.wrap ((sy : Int) + (x : Int)) = (u : Int) := by rw [IntWalk.i64_in _ ⟨by omega, by omega⟩]; omega
        have HUE := Lib.hid hu
        rw [← hu] at HCP
        have hub : u ≤ BC := by omega
        have hubn : u ≤ bn := by omega
        clear hu
        clear p0 p1
        go_upto_region 14 with fail
        refine wp_region_held_drew (S := fun u => u.cell? ⟨g, ii * 3 + 1, none⟩ = some (.int .i64 sy)) (by kernel_rfl) q1 (fun hHeld => ?_)
        refine wpAnyH_take (i := 0) (v := ?_) rfl (by kernel_rfl) (by kernel_rfl) (by kernel_rfl) (fun _ _ _ h => h) (Or.inl ⟨by rfl, ?_⟩) (by assumption) ?_
        rotate_left 1
        · (intro w hSw; (try dsimp only at hSw); (try simp only [List.getElem_toArray, List.getElem_cons_succ, List.getElem_cons_zero]); go_simp <;> (try with_reducible rfl))
        try simp only [Act.put, List.getElem_toArray, List.getElem_cons_succ, List.getElem_cons_zero, List.setIfInBounds_toArray, List.set_cons_zero, List.set_cons_succ]
        refine wpAnyH_take (i := 1) (v := ?_) rfl (by kernel_rfl) (by kernel_rfl) (by kernel_rfl) (fun _ _ _ h => h) (Or.inl ⟨by rfl, ?_⟩) (by assumption) ?_
        rotate_left 1
        · (intro w hSw; (try dsimp only at hSw); (try simp only [List.getElem_toArray, List.getElem_cons_succ, List.getElem_cons_zero]); go_simp <;> (try with_reducible rfl))
        try simp only [Act.put, List.getElem_toArray, List.getElem_cons_succ, List.getElem_cons_zero, List.setIfInBounds_toArray, List.set_cons_zero, List.set_cons_succ]
        refine wpAnyH_take (i := 2) (v := ?_) rfl (by kernel_rfl) (by kernel_rfl) (by kernel_rfl) (fun _ _ _ h => h) (Or.inl ⟨by rfl, ?_⟩) (by assumption) ?_
        rotate_left 1
        · (intro w hSw; (try dsimp only at hSw); (try simp only [List.getElem_toArray, List.getElem_cons_succ, List.getElem_cons_zero]); go_simp <;> (try with_reducible rfl))
        try simp only [Act.put, List.getElem_toArray, List.getElem_cons_succ, List.getElem_cons_zero, List.setIfInBounds_toArray, List.set_cons_zero, List.set_cons_succ]
        refine wpAnyH_take (i := 3) (v := ?_) rfl (by kernel_rfl) (by kernel_rfl) (by kernel_rfl) (fun _ _ _ h => h) (Or.inl ⟨by rfl, ?_⟩) (by assumption) ?_
        rotate_left 1
        · (intro w hSw; (try dsimp only at hSw); (try simp only [List.getElem_toArray, List.getElem_cons_succ, List.getElem_cons_zero]); go_simp <;> (try with_reducible rfl))
        try simp only [Act.put, List.getElem_toArray, List.getElem_cons_succ, List.getElem_cons_zero, List.setIfInBounds_toArray, List.set_cons_zero, List.set_cons_succ]
        refine wpAnyH_take (i := 5) (v := ?_) rfl (by kernel_rfl) (by kernel_rfl) (by kernel_rfl) (fun _ _ _ h => h) (Or.inl ⟨by rfl, ?_⟩) (by assumption) ?_
        rotate_left 1
        · (intro w hSw; (try dsimp only at hSw); (try simp only [List.getElem_toArray, List.getElem_cons_succ, List.getElem_cons_zero]); go_simp <;> (try with_reducible rfl))
        try simp only [Act.put, List.getElem_toArray, List.getElem_cons_succ, List.getElem_cons_zero, List.setIfInBounds_toArray, List.set_cons_zero, List.set_cons_succ]
        refine wpAnyH_take (i := 6) (v := ?_) rfl (by kernel_rfl) (by kernel_rfl) (by kernel_rfl) (fun _ _ _ h => h) (Or.inl ⟨by rfl, ?_⟩) (by assumption) ?_
        rotate_left 1
        · (intro w hSw; (try dsimp only at hSw); (try simp only [List.getElem_toArray, List.getElem_cons_succ, List.getElem_cons_zero]); go_simp <;> (try with_reducible rfl))
        try simp only [Act.put, List.getElem_toArray, List.getElem_cons_succ, List.getElem_cons_zero, List.setIfInBounds_toArray, List.set_cons_zero, List.set_cons_succ]
        refine wpAnyH_take (i := 7) (v := ?_) rfl (by kernel_rfl) (by kernel_rfl) (by kernel_rfl) (fun _ _ _ h => h) (Or.inl ⟨by rfl, ?_⟩) (by assumption) ?_
        rotate_left 1
        · (intro w hSw; (try dsimp only at hSw); (try simp only [List.getElem_toArray, List.getElem_cons_succ, List.getElem_cons_zero]); go_simp <;> (try with_reducible rfl))
        try simp only [Act.put, List.getElem_toArray, List.getElem_cons_succ, List.getElem_cons_zero, List.setIfInBounds_toArray, List.set_cons_zero, List.set_cons_succ]
        refine wpAnyH_take (i := 8) (v := ?_) rfl (by kernel_rfl) (by kernel_rfl) (by kernel_rfl) (fun _ _ _ h => h) (Or.inl ⟨by rfl, ?_⟩) (by assumption) ?_
        rotate_left 1
        · (intro w hSw; (try dsimp only at hSw); (try simp only [List.getElem_toArray, List.getElem_cons_succ, List.getElem_cons_zero]); go_simp <;> (try with_reducible rfl))
        try simp only [Act.put, List.getElem_toArray, List.getElem_cons_succ, List.getElem_cons_zero, List.setIfInBounds_toArray, List.set_cons_zero, List.set_cons_succ]
        refine wpAnyH_take (i := 9) (v := ?_) rfl (by kernel_rfl) (by kernel_rfl) (by kernel_rfl) (fun _ _ _ h => h) (Or.inl ⟨by rfl, ?_⟩) (by assumption) ?_
        rotate_left 1
        · (intro w hSw; (try dsimp only at hSw); (try simp only [List.getElem_toArray, List.getElem_cons_succ, List.getElem_cons_zero]); go_simp <;> (try with_reducible rfl))
        try simp only [Act.put, List.getElem_toArray, List.getElem_cons_succ, List.getElem_cons_zero, List.setIfInBounds_toArray, List.set_cons_zero, List.set_cons_succ]
        refine wpAnyH_take (i := 10) (v := ?_) rfl (by kernel_rfl) (by kernel_rfl) (by kernel_rfl) (fun _ _ _ h => h) (Or.inl ⟨by rfl, ?_⟩) (by assumption) ?_
        rotate_left 1
        · (intro w hSw; (try dsimp only at hSw); (try simp only [List.getElem_toArray, List.getElem_cons_succ, List.getElem_cons_zero]); go_simp <;> (try with_reducible rfl))
        try simp only [Act.put, List.getElem_toArray, List.getElem_cons_succ, List.getElem_cons_zero, List.setIfInBounds_toArray, List.set_cons_zero, List.set_cons_succ]
        refine wpAnyH_ready (rs := [4]) (by kernel_rfl) (by simp) ?_
        refine AllReadyH.cons rfl (fun K hK => ?_) AllReadyH.nil
        go_simp
        refine hK.out _ _ q1 (fun hHeld => ?_)
        clear hK K
        try simp only [Act.put, List.getElem_toArray, List.getElem_cons_succ, List.getElem_cons_zero, List.setIfInBounds_toArray, List.set_cons_zero, List.set_cons_succ]
        refine wpAnyH_take (i := 11) (v := ?_) rfl (by kernel_rfl) (by kernel_rfl) (by kernel_rfl) (fun _ _ _ h => h) (Or.inl ⟨by rfl, ?_⟩) (by assumption) ?_
        rotate_left 1
        · (intro w hSw; (try dsimp only at hSw); (try simp only [List.getElem_toArray, List.getElem_cons_succ, List.getElem_cons_zero]); go_simp <;> (try with_reducible rfl))
        try simp only [Act.put, List.getElem_toArray, List.getElem_cons_succ, List.getElem_cons_zero, List.setIfInBounds_toArray, List.set_cons_zero, List.set_cons_succ]
        refine wpAnyH_ready (rs := [12]) (by kernel_rfl) (by simp) ?_
        refine AllReadyH.cons rfl (fun K hK => ?_) AllReadyH.nil
        go_simp
        refine (HCP.out _ HD6.out).mono ?_
        rintro e w7 ⟨v7, rfl, hown7, hb7⟩
        obtain ⟨A7, m7, c7, rfl, hm7, -, -⟩ := hown7.form
        have HB7 : Hid (Below w4.heap.size w4 w7) := Lib.hid (HD6.out.trans (hb7.mono HD6.out.size))
        have hown7b : Own Rep.byte 5 w7 w4.heap.size nob (.slice A7 m7 c7) (nd.bytes.take u) := hown7.low HB46.out.size
        obtain ⟨hf1, hf2, hf3, hf4⟩ := HR4.out.fresh HIV.out HB7.out hown7b
        have HF1 := Lib.hid hf1
        have HF2 := Lib.hid hf2
        have HM7 : Hid (m7 = u) := Lib.hid (by rw [hm7.out, List.length_take, ← HBL.out]; omega)
        have r1 : w7.cell? ⟨g, ii * 3 + 1, none⟩ = some (.int .i64 sy) := (HB7.out.cell (p := ⟨g, ii * 3 + 1, none⟩) hglt).trans ((HB46.out.cell (p := ⟨g, ii * 3 + 1, none⟩) hglt).symm.trans q1)
        clear hown7 hown7b hb7 hf1 hf2
        go_wp2_with fail
        refine hK.out _ _ r1 (fun hHeld => ?_)
        clear hK K
        try simp only [Act.put, List.getElem_toArray, List.getElem_cons_succ, List.getElem_cons_zero, List.setIfInBounds_toArray, List.set_cons_zero, List.set_cons_succ]
        refine wpAnyH_take (i := 13) (v := ?_) rfl (by kernel_rfl) (by kernel_rfl) (by kernel_rfl) (fun _ _ _ h => h) (Or.inl ⟨by rfl, ?_⟩) (by assumption) ?_
        rotate_left 1
        · (intro w hSw; (try dsimp only at hSw); (try simp only [List.getElem_toArray, List.getElem_cons_succ, List.getElem_cons_zero]); go_simp <;> (try with_reducible rfl))
        try simp only [Act.put, List.getElem_toArray, List.getElem_cons_succ, List.getElem_cons_zero, List.setIfInBounds_toArray, List.set_cons_zero, List.set_cons_succ]
        refine wpAnyH_take (i := 14) (v := ?_) rfl (by kernel_rfl) (by kernel_rfl) (by kernel_rfl) (fun _ _ _ h => h) (Or.inl ⟨by rfl, ?_⟩) (by assumption) ?_
        rotate_left 1
        · (intro w hSw; (try dsimp only at hSw); (try simp only [List.getElem_toArray, List.getElem_cons_succ, List.getElem_cons_zero]); go_simp <;> (try with_reducible rfl))
        try simp only [Act.put, List.getElem_toArray, List.getElem_cons_succ, List.getElem_cons_zero, List.setIfInBounds_toArray, List.set_cons_zero, List.set_cons_succ]
        refine wpAnyH_ready (rs := [15]) (by kernel_rfl) (by simp) ?_
        refine AllReadyH.cons rfl (fun K hK => ?_) AllReadyH.nil
        have r2 : (w7.setCell ⟨g, ii * 3, none⟩ (.slice A7 m7 c7)).cell? ⟨g, ii * 3 + 1, none⟩ = some (.int .i64 sy) := by
          rw [← r1]; exact World.cell?_setCell_other _ _ _ _ (fun e => by simp at e)
        go_simp
        refine hK.out _ _ r2 (fun hHeld => ?_)
        clear hK K
        try simp only [Act.put, List.getElem_toArray, List.getElem_cons_succ, List.getElem_cons_zero, List.setIfInBounds_toArray, List.set_cons_zero, List.set_cons_succ]
        refine wpAnyH_done (by kernel_rfl) ?_ _
        obtain ⟨w8, hw8⟩ : ∃ w8, w8 = w7.setCell ⟨g, ii * 3, none⟩ (.slice A7 m7 c7) := ⟨_, rfl⟩
        rw [← hw8] at HF1 HF2
        have HW8 := Lib.hid hw8
        have hiv2 : ii < (vs4.set ii ({ (vs4[ii]'HIV.out).1 with bytes := nd.bytes.take u }, Value.slice A7 m7 c7)).length := by rw [List.length_set]; exact HIV.out
        obtain ⟨g9, n9, c9, hav9, -, -, -, s0, s1, -, sfr, ssyn, -⟩ := HF1.out.node hiv2
        simp only [Value.slice.injEq, Option.some.injEq, Addr.mk.injEq] at hav9
        obtain ⟨⟨rfl, -⟩, -, -⟩ := hav9
        have s0b : w8.cell? ⟨g, ii * 3, none⟩ = some (.slice A7 m7 c7) := by rw [s0]; simp
        obtain ⟨sv1, s1b⟩ : ∃ v, w8.cell? ⟨g, ii * 3 + 1, none⟩ = some v := ⟨_, s1⟩
        have sf1 := sfr (ii * 3 + 1)
        have hsn := ssyn m7 (by rw [HM7.out]; omega)
        have HSN := Lib.hid hsn
        clear q0 q1 hwr s0 s1 sfr ssyn hsn hw8
        rw [← HW8.out]
        go_wp2_with fail
        go_roundg (n6 - (i + 1))
        case measure => omega
        case rel =>
          refine ⟨i + 1, rfl, by omega, by go_num, Lib.hid (HT.out.next (t := ((({ s with all := Disk.St.cuts keep 0 (l.take i) s.all } : Disk.St).setNd ii fun e => { e with bytes := nd.bytes.take u }).setNd ii fun e => { e with syn := m7 })) (by rw [grow_set]; exact HSN.out.at_) (HF2.out.setCell (.inl hFg) _) ?_ ?_)⟩
          · intro b hb
            obtain ⟨cur, hcur⟩ := HR4.out.all.content (b := g) rfl
            have hne := hb.ne hcur (by decide)
            have h9 : w8.heap[b]? = w4.heap[b]? := by
              rw [HW8.out]
              exact (Below.heap_setCell w7 _ _ b hne).trans (HB7.out.block b hb.lt)
            exact (Below.heap_setCell w8 _ _ b hne).trans h9
          · have hcb : (Disk.St.cutNd nd keep[i]?).bytes = nd.bytes.take u := by rw [HCUT.out, HUE.out]
            have hcl : (Disk.St.cutNd nd keep[i]?).bytes.length = m7 := by rw [hcb, HM7.out, List.length_take, ← HBL.out]; omega
            have h9 := setNd_cut ({ s with all := Disk.St.cuts keep 0 (l.take i) s.all }) ii keep[i]? (e := nd) HALL.out HCZ.out.1
            rw [hcb] at h9
            rw [← hcb, hcl, hcb] at h9
            rw [h9]
            unfold Disk.St.setNd
            congr 1
            rw [List.take_succ_eq_append_getElem hil, cuts_snoc, ← HII.out, List.length_take, Nat.zero_add, Nat.min_eq_left (Nat.le_of_lt hil)]
      · obtain rfl : i = n6 := by omega
        have HTK : Hid (l.take i = l) := Lib.hid (by rw [HN6.out, List.take_length])
        have HR5 : Hid (RefF w4 (grow F w2 w4) d { s with all := Disk.St.cuts keep 0 l s.all } av4 nv4 ov4 rv4 pv4 vs4) := Lib.hid (by have h := HR4.out; rw [HTK.out] at h; exact h)
        have HEL := Lib.hid HT.out.2.1
        have HOL := Lib.hid HT.out.2.2
        have c3 := HR5.out.cell 3 _ rfl
        have f3 := HR5.out.frozen 3
        go_upto_region 17 with fail
        obtain ⟨w5, hw5⟩ : ∃ w5, w5 = w4.setCell ⟨d, 3, none⟩ (.slice A6 i c6) := ⟨_, rfl⟩
        have h5 : RefF w5 (grow F w2 w4) d { s with all := Disk.St.cuts keep 0 l s.all, now := l } av4 (.slice A6 i c6) ov4 rv4 pv4 vs4 := by rw [hw5]; exact HR5.out.set rfl HR5.out.all HR5.out.is_ HR5.out.rows HEL.out HR5.out.old HR5.out.row HR5.out.plan HR5.out.Fa HR5.out.Fb HR5.out.Fr HR5.out.Fp
        rw [← hw5]
        have HW5 := Lib.hid hw5
        clear hw5 c3 f3
        have c4 := h5.cell 4 _ rfl
        have f4 := h5.frozen 4
        have H5 := Lib.hid h5
        clear h5
        go_upto_region 18 with fail
        obtain ⟨w6, hw6⟩ : ∃ w6, w6 = w5.setCell ⟨d, 4, none⟩ (.slice A6 i c6) := ⟨_, rfl⟩
        have h6 : RefF w6 (grow F w2 w4) d { s with all := Disk.St.cuts keep 0 l s.all, now := l, old := l } av4 (.slice A6 i c6) (.slice A6 i c6) rv4 pv4 vs4 := by rw [hw6]; exact H5.out.set rfl H5.out.all H5.out.is_ H5.out.rows H5.out.now H5.out.now H5.out.row H5.out.plan H5.out.Fa H5.out.Fb H5.out.Fr H5.out.Fp
        rw [← hw6]
        have HW6 := Lib.hid hw6
        clear hw6 c4 f4
        have c5 := h6.cell 5 _ rfl
        have f5 := h6.frozen 5
        have H6 := Lib.hid h6
        clear h6
        go_upto_region 19 with fail
        obtain ⟨w7, hw7⟩ : ∃ w7, w7 = w6.setCell ⟨d, 5, none⟩ (.slice none 0 0) := ⟨_, rfl⟩
        have h7 : RefF w7 (grow F w2 w4) d { s with all := Disk.St.cuts keep 0 l s.all, now := l, old := l, row := [] } av4 (.slice A6 i c6) (.slice A6 i c6) (.slice none 0 0) pv4 vs4 := by rw [hw7]; exact H6.out.set rfl H6.out.all H6.out.is_ H6.out.rows H6.out.now H6.out.now (Own.nil _ _ _ _) H6.out.plan H6.out.Fa H6.out.Fb (fun b hb => by simp [Value.ownBlock] at hb) H6.out.Fp
        rw [← hw7]
        have HW7 := Lib.hid hw7
        clear hw7 c5 f5
        have c1 := h7.cell 1 _ rfl
        have f1 := h7.frozen 1
        have H7 := Lib.hid h7
        clear h7
        go_wp2_with fail
        have h8 : RefF (w7.setCell ⟨d, 1, none⟩ (.bool true)) (grow F w2 w4) d { s with all := Disk.St.cuts keep 0 l s.all, now := l, old := l, row := [], on := true } av4 (.slice A6 i c6) (.slice A6 i c6) (.slice none 0 0) pv4 vs4 := H7.out.set rfl H7.out.all H7.out.is_ H7.out.rows H7.out.now H7.out.now H7.out.row H7.out.plan H7.out.Fa H7.out.Fb H7.out.Fr H7.out.Fp
        have ho8 : Only (fun b => b = d) w4 (w7.setCell ⟨d, 1, none⟩ (.bool true)) := by
          rw [HW7.out, HW6.out, HW5.out]
          exact ((((Only.refl (fun b => b = d) w4).setCell (p := ⟨d, 3, none⟩) (.inl rfl) _).setCell (p := ⟨d, 4, none⟩) (.inl rfl) _).setCell (p := ⟨d, 5, none⟩) (.inl rfl) _).setCell (p := ⟨d, 1, none⟩) (.inl rfl) _
        have hsz : (w7.setCell ⟨d, 1, none⟩ (.bool true)).heap.size = w4.heap.size := by rw [HW7.out, HW6.out, HW5.out]; simp [World.setCell]
        go_end0
        rw [HST.out]
        refine ⟨rfl, (h8.up (fun b hb => hb.elim .inl fun hb => .inr ⟨hb.1, by rw [hsz]; exact hb.2⟩) fun b hb => hb.elim (fun hb => Nat.lt_of_lt_of_le (HRX.out.lt b hb) (Nat.le_trans HOL.out.size ho8.size)) fun hb => hb.2).at_, HOL.out.trans ho8 fun b hb => .inl (by rw [hb]; exact HRX.out.Fd)⟩
end
end Go.Proofs.YtncpeogkccjmcaaGreatDoor
namespace Go.Proofs.YtncpeogkccjmcaaGreatDoor
open Go.RowKit Go.ChangeShapes Go.WideShapes Go.Deep

section
variable {w : World} {F : Blocks} {d : Nat} {s : Disk.St}
theorem refPower_any (HA : Hid (RefFA w F d s)) : Calls Tryz.prog 54 #[.pointer (some ⟨d, 0, none⟩)] w fun e w' => e = .returned (.bool s.on) ∧ w' = w := by
  obtain ⟨av, nv, ov, rv, pv, vs, hR⟩ := HA.out
  have c1 := hR.cell 1 _ rfl
  clear hR
  go_enter Tryz.func54, Tryz.ntmps54
  go_wp2_with fail
  go_ret
  exact ⟨rfl, rfl⟩
theorem refDone_any (HA : Hid (RefFA w F d s)) : Calls Tryz.prog 57 #[.pointer (some ⟨d, 0, none⟩)] w fun e w' => e = .returned (.int .i64 s.done) ∧ w' = w := by
  obtain ⟨av, nv, ov, rv, pv, vs, hR⟩ := HA.out
  have c1 := hR.cell 8 _ rfl
  clear hR
  go_enter Tryz.func57, Tryz.ntmps57
  go_wp2_with fail
  go_ret
  exact ⟨rfl, rfl⟩
theorem refPending_any (HA : Hid (RefFA w F d s)) : Calls Tryz.prog 56 #[.pointer (some ⟨d, 0, none⟩)] w fun e w' => e = .returned (.int .i64 (s.row.length : Nat)) ∧ w' = w := by
  obtain ⟨av, nv, ov, rv, pv, vs, hR⟩ := HA.out
  obtain ⟨rA, rn, rc, rfl, hrn, hrc, hrm⟩ := hR.row.form
  have c1 := hR.cell 5 _ rfl
  have HRN := Lib.hid hrn.out
  clear hR hrn
  go_enter Tryz.func56, Tryz.ntmps56
  go_wp2_with fail
  go_ret
  exact ⟨by rw [← HRN.out]; rfl, rfl⟩
theorem refOff_any (HA : Hid (RefFA w F d s)) : Calls Tryz.prog 51 #[.pointer (some ⟨d, 0, none⟩)] w fun e w' => e = .returned (.tuple #[]) ∧ Rk w w' F d s.off := by
  have HLT := Lib.hid HA.out.lt
  have K0 := Lib.hid (Rk.start HA.out)
  obtain ⟨av, nv, ov, rv, pv, vs, hR⟩ := K0.out.at_
  have c1 := hR.cell 1 _ rfl
  have f1 := hR.frozen 1
  have K1 := Lib.hid (K0.out.set HLT.out (hR.setN (t := s.off) (k := 1) (u := .bool false) rfl rfl rfl rfl rfl rfl))
  clear hR
  go_enter Tryz.func51, Tryz.ntmps51
  go_wp2_with fail
  go_end0
  exact ⟨rfl, K1.out⟩
end
end Go.Proofs.YtncpeogkccjmcaaGreatDoor
namespace Go.Proofs.YtncpeogkccjmcaaGreatDoor
open Go.RowKit Go.ChangeShapes Go.WideShapes Go.Deep

def baR (l : List UInt8) : ByteArray := ⟨l.toArray⟩
theorem stStrR : SliceType Tryz.prog 41 9 1 16 := SliceType.mk' (z := .string ⟨#[]⟩) Tryz.underlying41 (by kernel_rfl) rfl (by omega)
section
variable {w : World} {F : Blocks} {d : Nat} {s : Disk.St}
set_option maxRecDepth 100000 in
set_option maxHeartbeats 2000000 in
theorem refNames_any (HA : Hid (RefFA w F d s)) (hnl : s.now.length ≤ 2147483647) :
    Calls Tryz.prog 61 #[.pointer (some ⟨d, 0, none⟩)] w fun e w' => ∃ v, e = .returned v ∧ Own Rep.str 9 w' w.heap.size nob v (s.names.map baR) ∧ Below w.heap.size w w' := by
  obtain ⟨av, nv, ov, rv, pv, vs, hR⟩ := HA.out
  obtain ⟨NA, NC, rfl, hsn⟩ := hR.now
  have hnc := hsn.len
  have hcm := hsn.max
  have HRX := Lib.hid hR
  have HSN := Lib.hid hsn
  obtain ⟨nn, hnn⟩ : ∃ x, x = s.now.length := ⟨_, rfl⟩
  obtain ⟨on, hon⟩ : ∃ x, x = s.on := ⟨_, rfl⟩
  rw [← hnn] at hnl hnc
  have HNN := Lib.hid hnn
  have HON := Lib.hid hon
  clear hR hsn hnn hon
  go_enter Tryz.func61, Tryz.ntmps61
  go_wp2_with fail
  go_loopg [3, 4] nn (fun q s3 s4 wr => ∃ (j : Nat) (A3 : Option Addr) (n3 c3 : Nat), q = nn - j ∧ j ≤ nn ∧ s4 = .int .i64 j ∧ s3 = .slice A3 n3 c3 ∧ Hid (0 < j → on = true) ∧ Hid (Own Rep.str 9 wr w.heap.size nob (.slice A3 n3 c3) ((s.now.take j).map fun p => baR p.1)) ∧ Hid (Below w.heap.size w wr))
  case atStart => exact ⟨0, none, 0, 0, rfl, by omega, rfl, rfl, Lib.hid (by simp), Lib.hid (Own.nil _ _ _ _), Lib.hid (Below.refl _ _)⟩
  case round =>
    obtain ⟨j, A3, n3, c3, rfl, hj, rfl, rfl, HJ, HO, HB⟩ := hrel
    have HRY := Lib.hid (HRX.out.far HB.out)
    have k1 := HRY.out.cell 1 _ rfl
    have k3 := HRY.out.cell 3 _ rfl
    rw [← HNN.out] at k3
    rw [← HON.out] at k1
    have HSY : Hid (SliceAt Rep.ent wr (EntIn w F) NA NC s.now) := Lib.hid (HSN.out.keep (fun _ h => h) (Same.of_below HB.out fun b h => h.lt))
    have hend : (j = nn ∨ on = false) → Own Rep.str 9 wr w.heap.size nob (.slice A3 n3 c3) (s.names.map baR) := fun h => by
      have e : (s.now.take j).map (fun p => baR p.1) = s.names.map baR := by
        unfold Disk.St.names Disk.keys
        rw [← HON.out]
        by_cases ho : on = true
        · rcases h with h | h
          · rw [if_pos ho, List.take_of_length_le (by rw [h, HNN.out]; exact Nat.le_refl _), List.map_map]; rfl
          · rw [ho] at h; cases h
        · rw [if_neg ho]
          have : j = 0 := by
            rcases Nat.eq_zero_or_pos j with h0 | h0
            · exact h0
            · exact absurd (HJ.out h0) ho
          subst this
          simp
      rw [← e]; exact HO.out
    have HE := Lib.hid hend
    clear hend
    by_cases hjn : j < nn
    · cases on
      · go_wp2_with fail
        go_ret
        exact ⟨_, rfl, HE.out (by simp), HB.out⟩
      · have hjl : j < s.now.length := by rw [← HNN.out]; exact hjn
        obtain ⟨g, o, rfl, hg, k0, -, hk1, -⟩ := HSY.out.ent hjl
        obtain ⟨x, hx⟩ : ∃ x : ByteArray, x = baR (s.now[j]).1 := ⟨_, rfl⟩
        rw [show (⟨(s.now[j]).1.toArray⟩ : ByteArray) = x from hx.symm] at k0
        have hxs : x.size ≤ maxLen := by rw [hx]; simpa [baR, ByteArray.size] using hk1
        have HTK : Hid ((s.now.take (j + 1)).map (fun p => baR p.1) = (s.now.take j).map (fun p => baR p.1) ++ [x]) := Lib.hid (by rw [List.take_succ_eq_append_getElem hjl, List.map_append, hx]; rfl)
        have hln : ((s.now.take j).map (fun p => baR p.1)).length ≤ 2147483647 := by rw [List.length_map, List.length_take]; omega
        have k0a : ∀ ob, (wr.alloc ob).cell? ⟨g, o + j * 2, none⟩ = some (.string x) := fun ob => ((Below.alloc (Below.refl wr.heap.size wr) (Nat.le_refl _) ob).cell (p := ⟨g, o + j * 2, none⟩) (World.block_lt_of_cell? wr _ k0)).trans k0
        have HLN := Lib.hid hln
        clear hx hg hjl hk1 hln
        go_wp2_with (at_builtin; refine wpList_append_Own _ rfl (.tmp 20) (.tmp 29) 41 rfl Rep.str w.heap.size 9 16 stStrR nob (.slice A3 n3 c3) _ rfl (HO.out.alloc _) _ _ 1 [x] rfl (str_one _ x _ hxs) nob (fun _ h => h.elim) (fun _ h => h) (fun _ _ h => h) (by have := HLN.out; simp at this ⊢; omega) (by have := HLN.out; simp at this ⊢; omega) (by have := HB.out.size; simp; omega) ?_; intro v4 w4 hown4 hg4 hat4; obtain ⟨A4, n4, c4, rfl, -, -, -⟩ := hown4.form; have HO4 := Lib.hid hown4; have HB4 : Hid (Below w.heap.size w w4) := Lib.hid (below_own (HB.out.alloc HB.out.size _) (HO.out.alloc _) hg4 (by have := HB.out.size; simp; omega)); clear hown4 hg4 hat4)
        go_roundg (nn - (j + 1))
        case measure => omega
        case rel => exact ⟨j + 1, _, _, _, rfl, by omega, by go_num, rfl, Lib.hid (by simp), Lib.hid (by rw [HTK.out]; exact HO4.out), HB4⟩
    · have hjn2 : j = nn := by omega
      go_wp2_with fail
      go_ret
      exact ⟨_, rfl, HE.out (.inl hjn2), HB.out⟩
end
end Go.Proofs.YtncpeogkccjmcaaGreatDoor
