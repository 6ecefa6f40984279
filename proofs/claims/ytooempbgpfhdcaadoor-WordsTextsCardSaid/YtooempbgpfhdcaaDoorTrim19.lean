/- bytes.TrimLeft at " \t": the kit's contract, laid at this program, in the reading of a slice as a list. No conditions. -/
import Derived.Test.YtooempbgpfhdcaaDoorProg
import Derived.Test.YtooempbgpfhdcaaDoorMem
import Derived.Shelf.Bytes.SlTrim
import Derived.Shelf.Strings.SlTrimAscii
namespace Go.Proofs.YtooempbgpfhdcaaDoor
open Go.RowKit Go.Shelf

def trimRen : Ren := ⟨fun | 8 => 17 | 9 => 24 | 11 => 25 | 12 => 26 | 14 => 27 | 16 => 34 | 17 => 35 | 18 => 36 | 20 => 38 | n => n,
  fun | 0 => 0 | 3 => 3 | 4 => 4 | 5 => 5 | 9 => 9 | 21 => 21 | 22 => 23 | 27 => 58 | 28 => 59 | 31 => 62 | 33 => 68 | 36 => 71 | 37 => 65 | 39 => 73 | 40 => 74 | n => n,
  fun | 0 => 1 | 1 => 2 | n => n⟩
theorem trimLays : Go.Proofs.SlLaysV.n8 Tryd.prog trimRen := {
  mixed := by kernel_rfl
  f8 := Tryd.func17.trans (congrArg some (by kernel_rfl))
  f9 := Tryd.func24.trans (congrArg some (by kernel_rfl))
  f11 := Tryd.func25.trans (congrArg some (by kernel_rfl))
  f12 := Tryd.func26.trans (congrArg some (by kernel_rfl))
  f14 := Tryd.func27.trans (congrArg some (by kernel_rfl))
  f16 := Tryd.func34.trans (congrArg some (by kernel_rfl))
  f17 := Tryd.func35.trans (congrArg some (by kernel_rfl))
  f18 := Tryd.func36.trans (congrArg some (by kernel_rfl))
  f20 := Tryd.func38.trans (congrArg some (by kernel_rfl))
  t0 := Tryd.underlying0
  a0 := Tryd.isAgg0
  z0 := Tryd.sizeOf0
  v0 := Tryd.zeroValue0
  t3 := Tryd.underlying3
  a3 := Tryd.isAgg3
  z3 := Tryd.sizeOf3
  v3 := Tryd.zeroValue3
  t4 := Tryd.underlying4
  a4 := Tryd.isAgg4
  z4 := Tryd.sizeOf4
  v4 := Tryd.zeroValue4
  t5 := Tryd.underlying5
  a5 := Tryd.isAgg5
  z5 := Tryd.sizeOf5
  v5 := Tryd.zeroValue5
  t9 := Tryd.underlying9
  a9 := Tryd.isAgg9
  z9 := Tryd.sizeOf9
  v9 := Tryd.zeroValue9
  t21 := Tryd.underlying21
  a21 := Tryd.isAgg21
  z21 := Tryd.sizeOf21
  v21 := Tryd.zeroValue21
  t22 := Tryd.underlying23
  a22 := Tryd.isAgg23
  z22 := Tryd.sizeOf23
  v22 := Tryd.zeroValue23
  t27 := Tryd.underlying58
  a27 := Tryd.isAgg58
  z27 := Tryd.sizeOf58
  t28 := Tryd.underlying59
  a28 := Tryd.isAgg59
  z28 := Tryd.sizeOf59
  v28 := Tryd.zeroValue59
  t31 := Tryd.underlying62
  a31 := Tryd.isAgg62
  z31 := Tryd.sizeOf62
  v31 := Tryd.zeroValue62
  t33 := Tryd.underlying68
  a33 := Tryd.isAgg68
  z33 := Tryd.sizeOf68
  v33 := Tryd.zeroValue68
  t36 := Tryd.underlying71
  a36 := Tryd.isAgg71
  z36 := Tryd.sizeOf71
  t37 := Tryd.underlying65
  a37 := Tryd.isAgg65
  z37 := Tryd.sizeOf65
  v37 := Tryd.zeroValue65
  t39 := Tryd.underlying73
  a39 := Tryd.isAgg73
  z39 := Tryd.sizeOf73
  v39 := Tryd.zeroValue73
  t40 := Tryd.underlying74
  a40 := Tryd.isAgg74
  z40 := Tryd.sizeOf74
  v40 := Tryd.zeroValue74 }

theorem trimLeft_any (A : Option Addr) (n c k : Nat) (bl rest : List UInt8) (x : UInt8) (w : World) (S : Blocks) (hn : Hid (n = (bl ++ x :: rest).length)) (hl : Hid (SliceAt Rep.byte w S A c (bl ++ x :: rest))) (hk : Hid (k = bl.length))
    (hb : Hid (∀ y ∈ bl, y = 32 ∨ y = 9)) (hx : Hid (x ≠ 32 ∧ x ≠ 9)) :
    Calls Tryd.prog 17 #[.slice A n c, .string ⟨#[32, 9]⟩] w fun e w' => e = .returned (.slice (cutA A c k 1) (n - k) (c - k)) ∧ Below w.heap.size w w' := by
  have h27 : (Tryd.prog.info? 58).map (fun i => (i.zero, i.size)) = some (some (.agg (Array.replicate 256 (.bool false))), 256) := by kernel_rfl
  have hlen := hl.out.len
  have hmax := hl.out.max
  have hBA : Lib.BytesAt w A n (bl ++ x :: rest) := by
    intro h0
    obtain ⟨g, o, hA, -, -⟩ := hl.out.byte (i := 0) (by have := hn.out; omega)
    refine ⟨g, o, hA, fun i hi => ?_⟩
    obtain ⟨g', o', hA', -, hc⟩ := hl.out.byte (i := i) (by have := hn.out; omega)
    rw [hA] at hA'
    simp only [Option.some.injEq, Addr.mk.injEq] at hA'
    obtain ⟨rfl, rfl, -⟩ := hA'
    have hi' : i < (bl ++ x :: rest).length := by have := hn.out; omega
    rw [hc, List.getD_eq_getElem?_getD, List.getElem?_eq_getElem hi']
    rfl
  have h := Any.bytes_TrimLeft_ascii trimLays (zero_of_info h27).1 (zero_of_info h27).2 A n c (bl ++ x :: rest) ⟨#[32, 9]⟩ w hn.out.symm (by have := hn.out; omega) hmax hBA (by decide) (ascii_of_all (by decide))
  have ht : Lib.trimLeftS (bl ++ x :: rest) (⟨#[32, 9]⟩ : ByteArray).data.toList = x :: rest := by
    show Lib.trimLeftS (bl ++ x :: rest) [32, 9] = x :: rest
    unfold Lib.trimLeftS
    have hb' := hb.out
    clear hn hl hk hb hlen hmax hBA h
    induction bl with
    | nil => rw [List.nil_append, List.dropWhile_cons_of_neg]; simp [hx.out.1, hx.out.2]
    | cons y r ih =>
      rw [List.cons_append, List.dropWhile_cons_of_pos]
      · exact ih fun z hz => hb' z (by simp [hz])
      · rcases hb' y (by simp) with rfl | rfl <;> rfl
  rw [ht] at h
  have hj : n - (x :: rest).length = k := by have h1 := hn.out; have h2 := hk.out; rw [List.length_append] at h1; omega
  rw [hj] at h
  have hv : Lib.leftV A n c k = .slice (cutA A c k 1) (n - k) (c - k) := by
    unfold Lib.leftV Lib.fromV cutA
    rw [if_neg (by have h1 := hn.out; have h2 := hk.out; rw [List.length_append, List.length_cons] at h1; omega)]
    simp only [Nat.mul_one]
  rw [hv] at h
  exact h
end Go.Proofs.YtooempbgpfhdcaaDoor
