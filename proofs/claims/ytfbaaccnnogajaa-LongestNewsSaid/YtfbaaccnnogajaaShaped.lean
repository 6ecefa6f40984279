/- A well shaped machine: the walk of machine.Shaped. Condition: the instructions are read in memory that is there. -/
import Derived.Test.YtfbaaccnnogajaaProg
import Derived.Test.YtfbaaccnnogajaaShapedA
import Derived.Test.YtfbaaccnnogajaaShapedB
namespace Go.Proofs.Ytfbaaccnnogajaa
open Go.RowKit

section
variable {g o n c gb : Nat} {M : List Instr}
def IS (w : World) (g o n c gb : Nat) (M : List Instr) (c7 c8 c9 c10 c11 c12 c13 c14 c15 : Value) (gk : Nat) (a : Act) (w' : World) : Prop :=
  ∃ u4 u5 u6 u19 u20 u21 u22 u23 u24 u25 u26 u27 u28 u29 u30 u31 u32 u33 u34 u35 u36 u37 u38 u39 u40 u41 u42 u43 u44 u45 u46 u47 u48 u49 u50 u51 u52 u53 u54 u55 u56 u57 u58 u59 u60 u61 u62 u63 u64 u65 u66 u67 u68 u69 u70 u71 u72 u73 u74 u75 u76 u77 u78 k, Below w.heap.size w w' ∧ (∀ j (h : j < M.length), j < k → instrOk M.length j M[j]) ∧ gk + k = n ∧ a = ⟨#[.slice (some ⟨g, o, none⟩) n c, .pointer (some ⟨gb, 0, none⟩), .bool false, .func (Fn.func 31) #[] #[.pointer (some ⟨gb, 0, none⟩)], u4, u5, u6, c7, c8, c9, c10, c11, c12, c13, c14, c15, .slice (some ⟨g, o, none⟩) n c, .int .i64 (n : Nat), .int .i64 (k : Nat), u19, u20, u21, u22, u23, u24, u25, u26, u27, u28, u29, u30, u31, u32, u33, u34, u35, u36, u37, u38, u39, u40, u41, u42, u43, u44, u45, u46, u47, u48, u49, u50, u51, u52, u53, u54, u55, u56, u57, u58, u59, u60, u61, u62, u63, u64, u65, u66, u67, u68, u69, u70, u71, u72, u73, u74, u75, u76, u77, u78], []⟩
set_option maxRecDepth 100000 in
set_option maxHeartbeats 1000000 in
theorem shaped_exit {k : Nat} {w : World} {u4 u5 u6 c7 c8 c9 c10 c11 c12 c13 c14 c15 u19 u20 u21 u22 u23 u24 u25 u26 u27 u28 u29 u30 u31 u32 u33 u34 u35 u36 u37 u38 u39 u40 u41 u42 u43 u44 u45 u46 u47 u48 u49 u50 u51 u52 u53 u54 u55 u56 u57 u58 u59 u60 u61 u62 u63 u64 u65 u66 u67 u68 u69 u70 u71 u72 u73 u74 u75 u76 u77 u78 : Value} {K : Act → World → Prop} {Q : Exit → Act → World → Prop} (hk : k = n) (hQ : Hid (∀ z4 z5 z6 z19 z20 z21 z22 z23 z24 z25 z26 z27 z28 z29 z30 z31 z32 z33 z34 z35 z36 z37 z38 z39 z40 z41 z42 z43 z44 z45 z46 z47 z48 z49 z50 z51 z52 z53 z54 z55 z56 z57 z58 z59 z60 z61 z62 z63 z64 z65 z66 z67 z68 z69 z70 z71 z72 z73 z74 z75 z76 z77 z78, Q (.exit 0) ⟨#[.slice (some ⟨g, o, none⟩) n c, .pointer (some ⟨gb, 0, none⟩), .bool false, .func (Fn.func 31) #[] #[.pointer (some ⟨gb, 0, none⟩)], z4, z5, z6, c7, c8, c9, c10, c11, c12, c13, c14, c15, .slice (some ⟨g, o, none⟩) n c, .int .i64 (n : Nat), .int .i64 (k : Nat), z19, z20, z21, z22, z23, z24, z25, z26, z27, z28, z29, z30, z31, z32, z33, z34, z35, z36, z37, z38, z39, z40, z41, z42, z43, z44, z45, z46, z47, z48, z49, z50, z51, z52, z53, z54, z55, z56, z57, z58, z59, z60, z61, z62, z63, z64, z65, z66, z67, z68, z69, z70, z71, z72, z73, z74, z75, z76, z77, z78], []⟩ w)) : bodyS.wp Try.prog (Exit.then K Q) ⟨#[.slice (some ⟨g, o, none⟩) n c, .pointer (some ⟨gb, 0, none⟩), .bool false, .func (Fn.func 31) #[] #[.pointer (some ⟨gb, 0, none⟩)], u4, u5, u6, c7, c8, c9, c10, c11, c12, c13, c14, c15, .slice (some ⟨g, o, none⟩) n c, .int .i64 (n : Nat), .int .i64 (k : Nat), u19, u20, u21, u22, u23, u24, u25, u26, u27, u28, u29, u30, u31, u32, u33, u34, u35, u36, u37, u38, u39, u40, u41, u42, u43, u44, u45, u46, u47, u48, u49, u50, u51, u52, u53, u54, u55, u56, u57, u58, u59, u60, u61, u62, u63, u64, u65, u66, u67, u68, u69, u70, u71, u72, u73, u74, u75, u76, u77, u78], []⟩ w := by
  subst hk
  conv => arg 2; whnf
  go_wp2_with fail
  exact hQ.out _ _ _ _ _ _ _ _ _ _ _ _ _ _ _ _ _ _ _ _ _ _ _ _ _ _ _ _ _ _ _ _ _ _ _ _ _ _ _ _ _ _ _ _ _ _ _ _ _ _ _ _ _ _ _ _ _ _ _ _ _ _ _
set_option maxRecDepth 100000 in
set_option maxHeartbeats 4000000 in
theorem shapedLoop {w : World} {S : Blocks} {u4 u5 u6 c7 c8 c9 c10 c11 c12 c13 c14 c15 u19 u20 u21 u22 u23 u24 u25 u26 u27 u28 u29 u30 u31 u32 u33 u34 u35 u36 u37 u38 u39 u40 u41 u42 u43 u44 u45 u46 u47 u48 u49 u50 u51 u52 u53 u54 u55 u56 u57 u58 u59 u60 u61 u62 u63 u64 u65 u66 u67 u68 u69 u70 u71 u72 u73 u74 u75 u76 u77 u78 : Value} {Q : Exit → Act → World → Prop} (hm : SliceAt Rep.instr w S (some ⟨g, o, none⟩) c M) (hS : ∀ b, S b → b < w.heap.size) (hnM : n = M.length) (hn : n ≤ 65540) (hcb : w.cell? ⟨gb, 0, none⟩ = some (.slice (some ⟨g, o, none⟩) n c))
    (hT : (∀ j (h : j < M.length), instrOk M.length j M[j]) → ∀ z4 z5 z6 z19 z20 z21 z22 z23 z24 z25 z26 z27 z28 z29 z30 z31 z32 z33 z34 z35 z36 z37 z38 z39 z40 z41 z42 z43 z44 z45 z46 z47 z48 z49 z50 z51 z52 z53 z54 z55 z56 z57 z58 z59 z60 z61 z62 z63 z64 z65 z66 z67 z68 z69 z70 z71 z72 z73 z74 z75 z76 z77 z78 k w', Below w.heap.size w w' → Q (.exit 0) ⟨#[.slice (some ⟨g, o, none⟩) n c, .pointer (some ⟨gb, 0, none⟩), .bool false, .func (Fn.func 31) #[] #[.pointer (some ⟨gb, 0, none⟩)], z4, z5, z6, c7, c8, c9, c10, c11, c12, c13, c14, c15, .slice (some ⟨g, o, none⟩) n c, .int .i64 (n : Nat), .int .i64 (k : Nat), z19, z20, z21, z22, z23, z24, z25, z26, z27, z28, z29, z30, z31, z32, z33, z34, z35, z36, z37, z38, z39, z40, z41, z42, z43, z44, z45, z46, z47, z48, z49, z50, z51, z52, z53, z54, z55, z56, z57, z58, z59, z60, z61, z62, z63, z64, z65, z66, z67, z68, z69, z70, z71, z72, z73, z74, z75, z76, z77, z78], []⟩ w') (hF : ¬ (∀ j (h : j < M.length), instrOk M.length j M[j]) → ∀ z4 z5 z6 z19 z20 z21 z22 z23 z24 z25 z26 z27 z28 z29 z30 z31 z32 z33 z34 z35 z36 z37 z38 z39 z40 z41 z42 z43 z44 z45 z46 z47 z48 z49 z50 z51 z52 z53 z54 z55 z56 z57 z58 z59 z60 z61 z62 z63 z64 z65 z66 z67 z68 z69 z70 z71 z72 z73 z74 z75 z76 z77 z78 k w', Below w.heap.size w w' → Q .ret ⟨#[.slice (some ⟨g, o, none⟩) n c, .pointer (some ⟨gb, 0, none⟩), .bool false, .func (Fn.func 31) #[] #[.pointer (some ⟨gb, 0, none⟩)], z4, z5, z6, c7, c8, c9, c10, c11, c12, c13, c14, c15, .slice (some ⟨g, o, none⟩) n c, .int .i64 (n : Nat), .int .i64 (k : Nat), z19, z20, z21, z22, z23, z24, z25, z26, z27, z28, z29, z30, z31, z32, z33, z34, z35, z36, z37, z38, z39, z40, z41, z42, z43, z44, z45, z46, z47, z48, z49, z50, z51, z52, z53, z54, z55, z56, z57, z58, z59, z60, z61, z62, z63, z64, z65, z66, z67, z68, z69, z70, z71, z72, z73, z74, z75, z76, z77, z78], []⟩ w') :
    (Code.loop bodyS).wp Try.prog Q ⟨#[.slice (some ⟨g, o, none⟩) n c, .pointer (some ⟨gb, 0, none⟩), .bool false, .func (Fn.func 31) #[] #[.pointer (some ⟨gb, 0, none⟩)], u4, u5, u6, c7, c8, c9, c10, c11, c12, c13, c14, c15, .slice (some ⟨g, o, none⟩) n c, .int .i64 (n : Nat), .int .i64 0, u19, u20, u21, u22, u23, u24, u25, u26, u27, u28, u29, u30, u31, u32, u33, u34, u35, u36, u37, u38, u39, u40, u41, u42, u43, u44, u45, u46, u47, u48, u49, u50, u51, u52, u53, u54, u55, u56, u57, u58, u59, u60, u61, u62, u63, u64, u65, u66, u67, u68, u69, u70, u71, u72, u73, u74, u75, u76, u77, u78], []⟩ w := by
  refine wp_loop_ghost_k (IS w g o n c gb M c7 c8 c9 c10 c11 c12 c13 c14 c15) n ?_ ?_
  · exact ⟨u4, u5, u6, u19, u20, u21, u22, u23, u24, u25, u26, u27, u28, u29, u30, u31, u32, u33, u34, u35, u36, u37, u38, u39, u40, u41, u42, u43, u44, u45, u46, u47, u48, u49, u50, u51, u52, u53, u54, u55, u56, u57, u58, u59, u60, u61, u62, u63, u64, u65, u66, u67, u68, u69, u70, u71, u72, u73, u74, u75, u76, u77, u78, 0, Below.refl _ _, fun j _ h => absurd h (by omega), rfl, rfl⟩
  intro gk a w1 hI J K hJ hK
  unfold IS at hI
  obtain ⟨u4, hI⟩ := hI; obtain ⟨u5, hI⟩ := hI; obtain ⟨u6, hI⟩ := hI; obtain ⟨u19, hI⟩ := hI; obtain ⟨u20, hI⟩ := hI; obtain ⟨u21, hI⟩ := hI; obtain ⟨u22, hI⟩ := hI; obtain ⟨u23, hI⟩ := hI; obtain ⟨u24, hI⟩ := hI; obtain ⟨u25, hI⟩ := hI; obtain ⟨u26, hI⟩ := hI; obtain ⟨u27, hI⟩ := hI; obtain ⟨u28, hI⟩ := hI; obtain ⟨u29, hI⟩ := hI; obtain ⟨u30, hI⟩ := hI; obtain ⟨u31, hI⟩ := hI; obtain ⟨u32, hI⟩ := hI; obtain ⟨u33, hI⟩ := hI; obtain ⟨u34, hI⟩ := hI; obtain ⟨u35, hI⟩ := hI; obtain ⟨u36, hI⟩ := hI; obtain ⟨u37, hI⟩ := hI; obtain ⟨u38, hI⟩ := hI; obtain ⟨u39, hI⟩ := hI; obtain ⟨u40, hI⟩ := hI; obtain ⟨u41, hI⟩ := hI; obtain ⟨u42, hI⟩ := hI; obtain ⟨u43, hI⟩ := hI; obtain ⟨u44, hI⟩ := hI; obtain ⟨u45, hI⟩ := hI; obtain ⟨u46, hI⟩ := hI; obtain ⟨u47, hI⟩ := hI; obtain ⟨u48, hI⟩ := hI; obtain ⟨u49, hI⟩ := hI; obtain ⟨u50, hI⟩ := hI; obtain ⟨u51, hI⟩ := hI; obtain ⟨u52, hI⟩ := hI; obtain ⟨u53, hI⟩ := hI; obtain ⟨u54, hI⟩ := hI; obtain ⟨u55, hI⟩ := hI; obtain ⟨u56, hI⟩ := hI; obtain ⟨u57, hI⟩ := hI; obtain ⟨u58, hI⟩ := hI; obtain ⟨u59, hI⟩ := hI; obtain ⟨u60, hI⟩ := hI; obtain ⟨u61, hI⟩ := hI; obtain ⟨u62, hI⟩ := hI; obtain ⟨u63, hI⟩ := hI; obtain ⟨u64, hI⟩ := hI; obtain ⟨u65, hI⟩ := hI; obtain ⟨u66, hI⟩ := hI; obtain ⟨u67, hI⟩ := hI; obtain ⟨u68, hI⟩ := hI; obtain ⟨u69, hI⟩ := hI; obtain ⟨u70, hI⟩ := hI; obtain ⟨u71, hI⟩ := hI; obtain ⟨u72, hI⟩ := hI; obtain ⟨u73, hI⟩ := hI; obtain ⟨u74, hI⟩ := hI; obtain ⟨u75, hI⟩ := hI; obtain ⟨u76, hI⟩ := hI; obtain ⟨u77, hI⟩ := hI; obtain ⟨u78, hI⟩ := hI
  obtain ⟨k, hb, hok, hgk, rfl⟩ := hI
  have hcb1 := (hb.cell (p := ⟨gb, 0, none⟩) (World.block_lt_of_cell? w _ hcb)).trans hcb
  by_cases hk : k < n
  · have hkM : k < M.length := by omega
    obtain ⟨g', o', he, hSg, hcs, -⟩ := instr_at hm (Same.of_below hb fun b h => hS b h) hkM
    simp only [Option.some.injEq, Addr.mk.injEq] at he
    obtain ⟨rfl, rfl, -⟩ := he
    have HK : Hid (instrOk n k M[k] → ∀ z4 z5 z6 z19 z20 z21 z22 z23 z24 z25 z26 z27 z28 z29 z30 z31 z32 z33 z34 z35 z36 z37 z38 z39 z40 z41 z42 z43 z44 z45 z46 z47 z48 z49 z50 z51 z52 z53 z54 z55 z56 z57 z58 z59 z60 z61 z62 z63 z64 z65 z66 z67 z68 z69 z70 z71 z72 z73 z74 z75 z76 z77 z78 w', Below w1.heap.size w1 w' → K ⟨#[.slice (some ⟨g, o, none⟩) n c, .pointer (some ⟨gb, 0, none⟩), .bool false, .func (Fn.func 31) #[] #[.pointer (some ⟨gb, 0, none⟩)], z4, z5, z6, c7, c8, c9, c10, c11, c12, c13, c14, c15, .slice (some ⟨g, o, none⟩) n c, .int .i64 (n : Nat), .int .i64 ((k : Int) + 1), z19, z20, z21, z22, z23, z24, z25, z26, z27, z28, z29, z30, z31, z32, z33, z34, z35, z36, z37, z38, z39, z40, z41, z42, z43, z44, z45, z46, z47, z48, z49, z50, z51, z52, z53, z54, z55, z56, z57, z58, z59, z60, z61, z62, z63, z64, z65, z66, z67, z68, z69, z70, z71, z72, z73, z74, z75, z76, z77, z78], []⟩ w') := Lib.hid fun hko z4 z5 z6 z19 z20 z21 z22 z23 z24 z25 z26 z27 z28 z29 z30 z31 z32 z33 z34 z35 z36 z37 z38 z39 z40 z41 z42 z43 z44 z45 z46 z47 z48 z49 z50 z51 z52 z53 z54 z55 z56 z57 z58 z59 z60 z61 z62 z63 z64 z65 z66 z67 z68 z69 z70 z71 z72 z73 z74 z75 z76 z77 z78 w' hb' => hK _ _ ⟨gk - 1, by omega, hJ _ _ _ (by
      refine ⟨z4, z5, z6, z19, z20, z21, z22, z23, z24, z25, z26, z27, z28, z29, z30, z31, z32, z33, z34, z35, z36, z37, z38, z39, z40, z41, z42, z43, z44, z45, z46, z47, z48, z49, z50, z51, z52, z53, z54, z55, z56, z57, z58, z59, z60, z61, z62, z63, z64, z65, z66, z67, z68, z69, z70, z71, z72, z73, z74, z75, z76, z77, z78, k + 1, hb.trans (hb'.mono hb.size), fun j hj hjk => ?_, by omega, rfl⟩
      rcases Nat.lt_or_ge j k with h | h
      · exact hok j hj h
      · obtain rfl : j = k := by omega
        rw [← hnM]; exact hko)⟩
    have HF : Hid (¬ instrOk n k M[k] → ∀ z4 z5 z6 z19 z20 z21 z22 z23 z24 z25 z26 z27 z28 z29 z30 z31 z32 z33 z34 z35 z36 z37 z38 z39 z40 z41 z42 z43 z44 z45 z46 z47 z48 z49 z50 z51 z52 z53 z54 z55 z56 z57 z58 z59 z60 z61 z62 z63 z64 z65 z66 z67 z68 z69 z70 z71 z72 z73 z74 z75 z76 z77 z78 w', Below w1.heap.size w1 w' → Q .ret ⟨#[.slice (some ⟨g, o, none⟩) n c, .pointer (some ⟨gb, 0, none⟩), .bool false, .func (Fn.func 31) #[] #[.pointer (some ⟨gb, 0, none⟩)], z4, z5, z6, c7, c8, c9, c10, c11, c12, c13, c14, c15, .slice (some ⟨g, o, none⟩) n c, .int .i64 (n : Nat), .int .i64 (k : Nat), z19, z20, z21, z22, z23, z24, z25, z26, z27, z28, z29, z30, z31, z32, z33, z34, z35, z36, z37, z38, z39, z40, z41, z42, z43, z44, z45, z46, z47, z48, z49, z50, z51, z52, z53, z54, z55, z56, z57, z58, z59, z60, z61, z62, z63, z64, z65, z66, z67, z68, z69, z70, z71, z72, z73, z74, z75, z76, z77, z78], []⟩ w') := Lib.hid fun hno z4 z5 z6 z19 z20 z21 z22 z23 z24 z25 z26 z27 z28 z29 z30 z31 z32 z33 z34 z35 z36 z37 z38 z39 z40 z41 z42 z43 z44 z45 z46 z47 z48 z49 z50 z51 z52 z53 z54 z55 z56 z57 z58 z59 z60 z61 z62 z63 z64 z65 z66 z67 z68 z69 z70 z71 z72 z73 z74 z75 z76 z77 z78 w' hb' => hF (fun h => hno (by rw [hnM]; exact h k hkM)) z4 z5 z6 z19 z20 z21 z22 z23 z24 z25 z26 z27 z28 z29 z30 z31 z32 z33 z34 z35 z36 z37 z38 z39 z40 z41 z42 z43 z44 z45 z46 z47 z48 z49 z50 z51 z52 z53 z54 z55 z56 z57 z58 z59 z60 z61 z62 z63 z64 z65 z66 z67 z68 z69 z70 z71 z72 z73 z74 z75 z76 z77 z78 k w' (hb.trans (hb'.mono hb.size))
    obtain ⟨op, hop⟩ : ∃ op, op = M[k].op := ⟨_, rfl⟩
    by_cases hout : op < 1 ∨ 6 < op
    · exact shaped_other hcs hcb1 hk HF (by rw [← hop]; exact hout)
    rcases (by omega : op = 1 ∨ op = 2 ∨ op = 3 ∨ op = 4 ∨ op = 5 ∨ op = 6) with e | e | e | e | e | e
    · exact shaped1 hcs hcb1 hk hn HK HF (by rw [← hop]; exact e)
    · exact shaped2 hcs hcb1 hk hn HK HF (by rw [← hop]; exact e)
    · exact shaped3 hcs hcb1 hk hn HK HF (by rw [← hop]; exact e)
    · exact shaped4 hcs hcb1 hk hn HK HF (by rw [← hop]; exact e)
    · exact shaped5 hcs hcb1 hk hn HK HF (by rw [← hop]; exact e)
    · exact shaped6 hcs hcb1 hk hn HK HF (by rw [← hop]; exact e)
  · exact shaped_exit (by omega) (Lib.hid fun z4 z5 z6 z19 z20 z21 z22 z23 z24 z25 z26 z27 z28 z29 z30 z31 z32 z33 z34 z35 z36 z37 z38 z39 z40 z41 z42 z43 z44 z45 z46 z47 z48 z49 z50 z51 z52 z53 z54 z55 z56 z57 z58 z59 z60 z61 z62 z63 z64 z65 z66 z67 z68 z69 z70 z71 z72 z73 z74 z75 z76 z77 z78 => hT (fun j hj => hok j hj (by omega)) z4 z5 z6 z19 z20 z21 z22 z23 z24 z25 z26 z27 z28 z29 z30 z31 z32 z33 z34 z35 z36 z37 z38 z39 z40 z41 z42 z43 z44 z45 z46 z47 z48 z49 z50 z51 z52 z53 z54 z55 z56 z57 z58 z59 z60 z61 z62 z63 z64 z65 z66 z67 z68 z69 z70 z71 z72 z73 z74 z75 z76 z77 z78 k w1 hb)
end
set_option maxRecDepth 100000 in
set_option maxHeartbeats 2000000 in
theorem shaped_any (M : List Instr) (A : Option Addr) (n c : Nat) (w : World) (S : Blocks) (hm : SliceAt Rep.instr w S A c M) (hS : ∀ b, S b → b < w.heap.size) (hnM : n = M.length) :
    Calls Try.prog 28 #[.slice A n c] w fun e w' => e = .returned (.bool (decide (MShaped M))) ∧ Below w.heap.size w w' := by
  have hmax := hm.max
  have hnc : n ≤ c := by rw [hnM]; exact hm.len
  by_cases h0 : n = 0
  · have hno : decide (MShaped M) = false := decide_eq_false fun h => by have := h.1; omega
    rw [hno]
    subst h0
    clear hno hnM hm hS
    go_enter Try.func28, Try.ntmps28
    go_wp2
    go_ret
    exact ⟨rfl, (Below.refl _ _).alloc (Nat.le_refl _) _⟩
  by_cases h1 : n ≤ 65540
  · have hm0 : 0 < M.length := by omega
    obtain ⟨g, o, _, rfl, -, -, -⟩ := hm.at_ hm0
    have h0' : ((n : Int) == 0) = false := by rw [beq_eq_false_iff_ne]; omega
    obtain ⟨r, hr⟩ : ∃ r, r = decide (MShaped M) := ⟨_, rfl⟩
    rw [← hr]
    have HR := Lib.hid hr
    have HM := Lib.hid hm
    have HN := Lib.hid hnM
    have HS := Lib.hid hS
    clear hr hm hnM hS hmax
    go_enter Try.func28, Try.ntmps28
    go_wp2_with fail
    have hb0 : Below w.heap.size w (w.alloc (.cells #[.slice (some ⟨g, o, none⟩) n c] 22)) := (Below.refl _ _).alloc (Nat.le_refl _) _
    refine shapedLoop (S := S) (HM.out.keep (fun _ h => h) (Same.of_below hb0 HS.out)) (fun b hb => Nat.lt_of_lt_of_le (HS.out b hb) hb0.size) HN.out h1 (by simp) (fun hall => ?_) (fun hno => ?_)
    · intro z4 z5 z6 z19 z20 z21 z22 z23 z24 z25 z26 z27 z28 z29 z30 z31 z32 z33 z34 z35 z36 z37 z38 z39 z40 z41 z42 z43 z44 z45 z46 z47 z48 z49 z50 z51 z52 z53 z54 z55 z56 z57 z58 z59 z60 z61 z62 z63 z64 z65 z66 z67 z68 z69 z70 z71 z72 z73 z74 z75 z76 z77 z78 k w' hb
      have e : r = true := by rw [HR.out]; exact decide_eq_true ⟨hm0, by have := HN.out; omega, hall⟩
      subst e
      have HB := Lib.hid (hb0.trans (hb.mono hb0.size))
      clear hb hb0 hall
      go_wp2_with fail
      go_ret
      exact ⟨rfl, HB.out⟩
    · intro z4 z5 z6 z19 z20 z21 z22 z23 z24 z25 z26 z27 z28 z29 z30 z31 z32 z33 z34 z35 z36 z37 z38 z39 z40 z41 z42 z43 z44 z45 z46 z47 z48 z49 z50 z51 z52 z53 z54 z55 z56 z57 z58 z59 z60 z61 z62 z63 z64 z65 z66 z67 z68 z69 z70 z71 z72 z73 z74 z75 z76 z77 z78 k w' hb
      have e : r = false := by rw [HR.out]; exact decide_eq_false fun h => hno h.2.2
      subst e
      have HB := Lib.hid (hb0.trans (hb.mono hb0.size))
      clear hb hb0 hno
      go_wp2_with fail
      go_ret
      exact ⟨rfl, HB.out⟩
  · have hno : decide (MShaped M) = false := decide_eq_false fun h => by have := h.2.1; omega
    rw [hno]
    have h0' : ((n : Int) == 0) = false := by rw [beq_eq_false_iff_ne]; omega
    have h1' : (65540 : Int) < n := by omega
    clear hno hnM hm hS h0 h1
    go_enter Try.func28, Try.ntmps28
    go_wp2
    go_ret
    exact ⟨rfl, (Below.refl _ _).alloc (Nat.le_refl _) _⟩
end Go.Proofs.Ytfbaaccnnogajaa
