/- Texts that lead to the claim, one behind the other: What Cleans that are cut short leave, in one row: the plain law of TempsRecovers. No program in sight. No conditions. -/
import Derived.Test.YtncpeogkccjmcaaTR40
import Derived.Test.YtncpeogkccjmcaaTR4
namespace Go.Proofs.Ytncpeogkccjmcaa
namespace Disk

theorem nowGo_mem : ∀ (fs : List Fin_) (i : Nat) (l : Fo) (p : Nm × Nat), p ∈ nowGo i l fs → p ∈ l ∨ ∃ f ∈ fs, f.name = p.1
  | [], _, _, _, h => .inl h
  | f :: r, i, l, p, h => by
    rcases nowGo_mem r (i + 1) (put l f.name i) p h with h | ⟨g, hg, e⟩
    · rcases mem_ins.1 h with rfl | h
      · exact .inr ⟨f, List.mem_cons_self, rfl⟩
      · exact .inl (List.mem_filter.1 h).1
    · exact .inr ⟨g, List.mem_cons_of_mem _ hg, e⟩
theorem now_names {room : Int} {fs : List Fin_} (h : fromErr room fs = 0) : ∀ p ∈ (fromSt room fs).now, isName p.1 = true := by
  intro p hp
  have hok : allOk fs = true := by
    unfold fromErr at h
    split at h
    · cases h
    · split at h
      · cases h
      · rename_i h2; simpa using h2
  rcases nowGo_mem fs 0 [] p hp with h | ⟨f, hf, e⟩
  · cases h
  · obtain ⟨j, hj, rfl⟩ := List.getElem_of_mem hf
    have := allOk_at hok hj
    unfold okF at this
    simp only [Bool.and_eq_true] at this
    rw [← e]
    exact this.1.1.1
section
variable (s0 : St) (fl : List (Int × Int)) (dir : Int) (keep : List Int) (ag : List (Int × Int)) (th : Int) (lf : List Int)
def r1 : St := (s0.plan_ fl).1
def r2 : St := (r1 s0 fl).clean.1
def r3 : St := (r2 s0 fl).off.start dir keep
def r4 : St := ((r3 s0 fl dir keep).plan_ ag).1
def r5 : St := (r4 s0 fl dir keep ag).clean.1
def r6 : St := (r5 s0 fl dir keep ag).off.start th lf
def r7 : St := ((r6 s0 fl dir keep ag th lf).plan_ []).1
theorem start_on (s : St) (dir : Int) (keep : List Int) : (s.off.start dir keep).on = true ∧ (s.off.start dir keep).row = [] := by
  unfold St.start
  rw [if_neg (by simp [St.off])]
  exact ⟨rfl, rfl⟩
theorem plan_nil (s : St) : (s.plan_ []).2 = 0 ∧ (s.plan_ []).1.on = s.on ∧ (s.plan_ []).1.row = s.row ∧ (s.plan_ []).1.plan = [] := ⟨rfl, rfl, rfl, rfl⟩
end
/-- All that the law asks. -/
theorem rec_all {room : Int} {fs : List Fin_} (h : fromErr room fs = 0) (fl : List (Int × Int)) (dir : Int) (keep : List Int) (ag : List (Int × Int)) (th : Int) (lf : List Int) {t u : St} (ht : t = r7 (fromSt room fs) fl dir keep ag th lf) (hu : u = t.clean.1.off.start 0 []) :
    t.clean.2 = 0 ∧ t.clean.1.stale = [] ∧ t.clean.1.row = [] ∧ u.files.length = ((fromSt room fs).files.filter ntF).length ∧
      ∀ (k : Nat) (f g : Nm × Nd), ((fromSt room fs).files.filter ntF)[k]? = some f → u.files[k]? = some g → g.1 = f.1 ∧ g.2.bad = f.2.bad ∧ g.2.bytes <+: f.2.bytes ∧ f.2.syn ≤ g.2.bytes.length := by
  have hR0 : Rec (fromSt room fs) (fromSt room fs) := Rec.start_ (fine_from h).good rfl
  have hR : Rec (fromSt room fs) t := by
    rw [ht]
    exact ((((((hR0.plan fl).clean).off.begin_ dir keep).plan ag).clean).off.begin_ th lf).plan []
  have h6 := start_on (r5 (fromSt room fs) fl dir keep ag) th lf
  have hon : t.on = true := by rw [ht]; exact h6.1
  have hrow : t.row = [] := by rw [ht]; exact h6.2
  have hpl : t.plan = [] := by rw [ht]; rfl
  have hnm : ∀ p ∈ t.now, isName p.1 = true := fun p hp => now_names h p (hR.sub t.row.length p (by rw [hR.good.at_all]; exact hp))
  obtain ⟨a, b, c, d⟩ := clean_free hR.good hpl hon hnm
  have hr := recovered hR.clean rfl b c (d hrow) hu
  exact ⟨a, c, d hrow, hr.1, hr.2⟩
/-- How many of the first are kept. -/
theorem nt_take {l : List (Nm × Nd)} {i : Nat} (hi : i < l.length) : (l.take (i + 1)).filter ntF = (l.take i).filter ntF ++ (if ntF l[i] then [l[i]] else []) := by
  rw [List.take_succ_eq_append_getElem hi, List.filter_append]
  congr 1
  cases h : ntF l[i] <;> simp [h]
theorem nt_at {l : List (Nm × Nd)} {i : Nat} (hi : i < l.length) (h : ntF l[i] = true) : (l.filter ntF)[((l.take i).filter ntF).length]? = some l[i] := by
  conv => lhs; rw [← List.take_append_drop i l, List.filter_append, List.take_append_drop]
  rw [List.getElem?_append_right (Nat.le_refl _), Nat.sub_self, List.drop_eq_getElem_cons hi, List.filter_cons_of_pos h]
  rfl
end Disk
end Go.Proofs.Ytncpeogkccjmcaa
