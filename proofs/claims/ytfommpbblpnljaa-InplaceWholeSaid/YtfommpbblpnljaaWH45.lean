/- Texts that lead to the claim, one behind the other: What Files tells, read as files that are handed in. No conditions. -/
import Derived.Test.YtfommpbblpnljaaWH19
import Derived.Test.YtfommpbblpnljaaWH17
namespace Go.Proofs.Ytfommpbblpnljaa
open Go.RowKit Go.ChangeShapes Go.WideShapes Go.Deep

/-- A told file as one that is handed in. -/
def Disk.toFin (x : Disk.Nm × Disk.Nd) : Disk.Fin_ := ⟨x.1, x.2.bytes, x.2.syn, x.2.bad⟩
theorem FilesOwn.slice {w : World} {base : Nat} {A : Option Addr} {n c : Nat} {l : List (Disk.Nm × Disk.Nd)} (h : FilesOwn w base (.slice A n c) l) : n = l.length ∧ SliceAt Rep.fin w (btw base w.heap.size) A c (l.map Disk.toFin) := by
  obtain ⟨vs, hvs, hown, hrows⟩ := h
  obtain ⟨A', c', he, hs⟩ := hown.slice
  simp only [Value.slice.injEq] at he
  obtain ⟨rfl, rfl, rfl⟩ := he
  have hlen : vs.length = l.length := by rw [← hvs]; simp
  refine ⟨hlen, by simpa [← hlen] using hs.1, hs.2.1, hs.2.2.1, fun i hi => ?_⟩
  have hil : i < vs.length := by rw [hlen]; simpa using hi
  obtain ⟨g, o, cs, e, hg, hc, rfl, h1, h2, h3⟩ := hs.at_ hil
  have hx : vs[i] ∈ vs := List.getElem_mem hil
  have ho := hrows.own _ hx
  obtain ⟨B, cb, hB, hsb⟩ := ho.slice
  have hli : (l.map Disk.toFin)[i] = Disk.toFin (vs[i]).1 := by
    subst hvs
    simp
  refine ⟨g, o, _, e, ?_, hc, ?_⟩
  · rcases hg with ⟨a, b, -⟩ | h
    · exact ⟨a, b⟩
    · exact h.elim
  · rw [hli]
    refine ⟨B, cb, by rw [hB]; rfl, hsb.up fun b hb => ?_, h1, ?_⟩
    · rcases hb with ⟨a, b, -⟩ | h
      · exact ⟨a, b⟩
      · exact h.elim
    · have : (0 : Int) ≤ (Disk.toFin (vs[i]).1).syn := by simp [Disk.toFin]
      have h9 : (Disk.toFin (vs[i]).1).syn ≤ 9223372036854775807 := by simp only [Disk.toFin]; omega
      simp [Lit.wf, IntKind.min, IntKind.max, IntKind.signed, IntKind.bits]; omega
end Go.Proofs.Ytfommpbblpnljaa
