/- The inner round of (longest.Search).from: one instruction that runs have come to; an arm for each kind. Conditions: the state of a search; room. -/
import Derived.Test.YtfbaaccnnogajaaProg
import Derived.Test.YtfbaaccnnogajaaState
import Derived.WalkKit
import Derived.WalkSpells
import Derived.Deep.QuietTactic
import Derived.BigQuiet
import Derived.Lib.Hide
import Derived.Deep.DeepMust
import Derived.Deep.Cut
import Derived.Deep.CutRange
import Derived.Outline
import Derived.RegionCalls
import Derived.Deep.RegionHeld3
namespace Go.Proofs.Ytfbaaccnnogajaa
open Go.RowKit

def loopsOf : Code → List Code
  | .loop c => [c]
  | .seq a b => loopsOf a ++ loopsOf b
  | .block _ c => loopsOf c
  | .scope c => loopsOf c
  | .cond _ a b => loopsOf a ++ loopsOf b
  | _ => []
noncomputable def body1 : Code := ((Try.f30.body.map loopsOf).getD []).headD .skip
noncomputable def body2 : Code := (loopsOf body1).headD .skip
noncomputable def body3 : Code := (loopsOf body1).getD 1 .skip

section
variable {w0 w : World} {F : Blocks} {B gs : Nat} {M : List Instr} {vm vt : Value} {ge ce n : Nat} {v vo : Value} {l : List Nat} {Ly : List Int} {st : Int} {steps : Nat} {met : List Int} {E Er : List Bool}
/-- What the walk reads of an instruction that runs have come to. -/
structure Reads (w : World) (gs gh gm om nm nl i k : Nat) (ch cm : Nat) (x : Instr) : Prop where
  rh : w.cell? ⟨gs, 3, none⟩ = some (.slice (some ⟨gh, 0, none⟩) nl ch)
  ri : w.cell? ⟨gh, i, none⟩ = some (.int .i64 (k : Nat))
  rm : w.cell? ⟨gs, 0, none⟩ = some (.slice (some ⟨gm, om, none⟩) nm cm)
  rop : w.cell? ⟨gm, om + k * 7, none⟩ = some (.int .i8 x.op)
  rx : w.cell? ⟨gm, om + k * 7 + 5, none⟩ = some (.int .i64 x.x)
  ry : w.cell? ⟨gm, om + k * 7 + 6, none⟩ = some (.int .i64 x.y)
  il : i < nl
  kl : k < nm
  bl : nl ≤ 1099511627776
  bm : nm ≤ 1099511627776
/-- An instruction's cells, in a world in which its block has not turned. -/
theorem reads (h : ST false w0 w F B gs M vm vt ge ce n v vo l Ly st steps met E Er) {i : Nat} (hi : i < l.length) (hM : M.length ≤ 1099511627776) :
    ∃ gh gm om nm nl ch cm, v = .slice (some ⟨gh, 0, none⟩) nl ch ∧ vm = .slice (some ⟨gm, om, none⟩) nm cm ∧ Reads w gs gh gm om nm nl i l[i] ch cm (M[l[i]]'(h.lt _ (List.getElem_mem hi))) := by
  have hkM := h.lt l[i] (List.getElem_mem hi)
  have hil' : i < (ints l).length := by simpa [ints] using hi
  have hll := nodup_len _ l h.nd h.lt
  obtain ⟨gh, ch, u2, rfl, -, -, hch, -, ⟨hu2, -⟩, -⟩ := h.h.cellAt rfl hil'
  obtain rfl : u2 = .int .i64 ((ints l)[i]) := by simpa using hu2
  have hki : (ints l)[i] = (l[i] : Int) := by simp [ints]
  rw [hki] at hch
  obtain ⟨Am, nm, cm, rfl, hnm, hnmc, hcmm, hsm⟩ := h.m.read
  obtain ⟨gm, om, rfl, -, hcs, hok⟩ := instr_at hsm (Same.refl _ _) hkM
  exact ⟨gh, gm, om, nm, _, ch, cm, rfl, rfl, h.blk.cell 3 _ rfl, hch, h.blk.cell 0 _ rfl, hcs 0 _ rfl, hcs 5 _ rfl, hcs 6 _ rfl, hil', by rw [hnm.out]; exact hkM, by simp [ints]; omega, by rw [hnm.out]; exact hM⟩
/-- An end is marked. -/
theorem ST.mark (h : ST false w0 w F B gs M vm vt ge ce n v vo l Ly st steps met E Er) {p : Nat} (hp : p ≤ n) :
    w.cell? ⟨gs, 5, none⟩ = some (.slice (some ⟨ge, 0, none⟩) (n + 1) ce) ∧ (∃ b : Bool, w.cell? ⟨ge, p, none⟩ = some (.bool b)) ∧ w.frozen? ⟨ge, p, none⟩ = false ∧ n + 1 ≤ ce ∧
      ST false w0 (w.setCell ⟨ge, p, none⟩ (.bool true)) F B gs M vm vt ge ce n v vo l Ly st steps met (E.set p true) Er := by
  have hel := h.el
  obtain ⟨_, _, _, hce, hcl, -, -⟩ := h.e.form
  obtain ⟨-, rfl, -⟩ := (Value.slice.injEq _ _ _ _ _ _).mp hce
  have hcl' := hcl.out
  simp only [List.length_append] at hcl'
  obtain ⟨g', c', u, he, _, _, hc, hf, hu, hset⟩ := h.e.cellAt rfl (k := p) (by simp; omega)
  simp only [Value.slice.injEq, Option.some.injEq, Addr.mk.injEq] at he
  obtain ⟨⟨rfl, _⟩, _, _⟩ := he
  have hs := hset (.bool true) true rfl
  rw [List.set_append_left _ _ (by omega)] at hs
  have ho : Only (fun b => b = ge) w (w.setCell ⟨ge, p, none⟩ (.bool true)) := Only.setCell (F := fun b => b = ge) (Only.refl _ _) (.inl rfl) _
  refine ⟨h.blk.cell 5 _ rfl, ⟨(E ++ Er)[p]'(by simp; omega), ?_⟩, hf, by omega, { h with
    blk := h.blk.only ho fun e => h.ne_e e.symm
    m := h.m.only ho fun b hb e => h.m.ne_type h.e (by decide) hb (by rw [e]; rfl)
    t := h.t.only ho fun b hb e => h.t.ne_type h.e (by decide) hb (by rw [e]; rfl)
    e := hs
    el := by simpa using h.el
    h := h.h.only ho fun b hb e => h.h.ne_type h.e (by decide) hb (by rw [e]; rfl)
    y := h.y.only ho fun b hb e => h.y.ne_type h.e (by decide) hb (by rw [e]; rfl)
    on := h.on.trans ho fun b hb => by rw [hb]; exact h.fe }⟩
  simp only [Rep.bool, List.cons.injEq, and_true] at hu
  rw [hc, hu]
theorem come_here (h : ST false w0 w F B gs M vm vt ge ce n v vo l Ly st steps met E Er) (k : Nat) (hk : k < M.length) (hM : M.length ≤ 1099511627776) (hs : steps < 4611686018427387904) :
    Calls Try.prog 33 #[.pointer (some ⟨gs, 0, none⟩), v, .int .i64 k] w fun e w' => ∃ A m c, e = .returned (.slice A m c) ∧ w'.cell? ⟨gs, 3, none⟩ = some v ∧ w'.frozen? ⟨gs, 3, none⟩ = false ∧
      Hid (∃ met', ∀ N, ST false w0 ((w'.setCell ⟨gs, 3, none⟩ (.slice A m c)).drewN N) F B gs M vm vt ge ce n (.slice A m c) vo (addN l k) Ly st (steps + ((addN l k).length - l.length)) met' E Er) := come_ST h k hk hM hs
end

section
variable {gs gh gm om nm nl i k ch cm : Nat} {x : Instr} {A : Option Addr} {n c p : Nat} {last : Int} {w : World} {c2 c3 c4 c5 c6 u10 u11 c12 c13 c14 c15 c16 c17 c18 c19 c20 c21 c22 c23 c24 c25 c26 c27 c28 c29 c30 c31 c32 c33 c34 c35 c36 c37 c38 c39 c40 c41 c42 c43 c44 c45 c46 c47 c48 c49 c50 c51 c52 c53 c54 c55 c56 c57 c58 c59 c60 c61 c62 c63 c64 c65 c66 u67 u68 u69 u70 u71 u72 u73 u74 u75 u76 u77 u78 u79 u80 u81 u82 u83 u84 u85 u86 u87 u88 u89 u90 u91 u92 u93 u94 u95 u96 u97 u98 u99 u100 u101 u102 u103 u104 u105 u106 u107 u108 u109 u110 u111 u112 u113 u114 u115 u116 u117 u118 u119 u120 u121 u122 u123 u124 u125 u126 u127 u128 u129 u130 u131 u132 u133 u134 u135 u136 u137 u138 u139 u140 u141 u142 u143 u144 u145 u146 u147 u148 u149 u150 u151 u152 u153 u154 u155 u156 u157 u158 u159 u160 u161 u162 u163 u164 u165 u166 u167 u168 u169 u170 u171 u172 u173 u174 u175 u176 c177 c178 c179 c180 c181 c182 c183 c184 c185 c186 c187 c188 c189 c190 c191 c192 c193 c194 c195 c196 c197 c198 c199 c200 c201 c202 c203 c204 c205 c206 c207 c208 c209 c210 c211 c212 c213 c214 c215 c216 c217 c218 c219 c220 c221 c222 c223 c224 c225 c226 c227 c228 c229 c230 c231 c232 c233 c234 c235 c236 c237 c238 c239 c240 c241 c242 c243 c244 c245 c246 c247 c248 : Value} {K : Act → World → Prop} {Q : Exit → Act → World → Prop}
set_option maxRecDepth 100000 in
set_option maxHeartbeats 4000000 in
/-- Another kind: nothing. -/
theorem round_none (hr : Reads w gs gh gm om nm nl i k ch cm x) (h2 : x.op = 1) (hK : Hid (∀ z10 z11 z67 z68 z69 z70 z71 z72 z73 z74 z75 z76 z77 z78 z79 z80 z81 z82 z83 z84 z85 z86 z87 z88 z89 z90 z91 z92 z93 z94 z95 z96 z97 z98 z99 z100 z101 z102 z103 z104 z105 z106 z107 z108 z109 z110 z111 z112 z113 z114 z115 z116 z117 z118 z119 z120 z121 z122 z123 z124 z125 z126 z127 z128 z129 z130 z131 z132 z133 z134 z135 z136 z137 z138 z139 z140 z141 z142 z143 z144 z145 z146 z147 z148 z149 z150 z151 z152 z153 z154 z155 z156 z157 z158 z159 z160 z161 z162 z163 z164 z165 z166 z167 z168 z169 z170 z171 z172 z173 z174 z175 z176 last2, last2 = last → K ⟨#[.pointer (some ⟨gs, 0, none⟩), .slice A n c, c2, c3, c4, c5, c6, .int .i64 last2, .int .i64 (p : Nat), .int .i64 ((i : Int) + 1), z10, z11, c12, c13, c14, c15, c16, c17, c18, c19, c20, c21, c22, c23, c24, c25, c26, c27, c28, c29, c30, c31, c32, c33, c34, c35, c36, c37, c38, c39, c40, c41, c42, c43, c44, c45, c46, c47, c48, c49, c50, c51, c52, c53, c54, c55, c56, c57, c58, c59, c60, c61, c62, c63, c64, c65, c66, z67, z68, z69, z70, z71, z72, z73, z74, z75, z76, z77, z78, z79, z80, z81, z82, z83, z84, z85, z86, z87, z88, z89, z90, z91, z92, z93, z94, z95, z96, z97, z98, z99, z100, z101, z102, z103, z104, z105, z106, z107, z108, z109, z110, z111, z112, z113, z114, z115, z116, z117, z118, z119, z120, z121, z122, z123, z124, z125, z126, z127, z128, z129, z130, z131, z132, z133, z134, z135, z136, z137, z138, z139, z140, z141, z142, z143, z144, z145, z146, z147, z148, z149, z150, z151, z152, z153, z154, z155, z156, z157, z158, z159, z160, z161, z162, z163, z164, z165, z166, z167, z168, z169, z170, z171, z172, z173, z174, z175, z176, c177, c178, c179, c180, c181, c182, c183, c184, c185, c186, c187, c188, c189, c190, c191, c192, c193, c194, c195, c196, c197, c198, c199, c200, c201, c202, c203, c204, c205, c206, c207, c208, c209, c210, c211, c212, c213, c214, c215, c216, c217, c218, c219, c220, c221, c222, c223, c224, c225, c226, c227, c228, c229, c230, c231, c232, c233, c234, c235, c236, c237, c238, c239, c240, c241, c242, c243, c244, c245, c246, c247, c248], []⟩ w)) : body2.wp Try.prog (Exit.then K Q) ⟨#[.pointer (some ⟨gs, 0, none⟩), .slice A n c, c2, c3, c4, c5, c6, .int .i64 last, .int .i64 (p : Nat), .int .i64 (i : Nat), u10, u11, c12, c13, c14, c15, c16, c17, c18, c19, c20, c21, c22, c23, c24, c25, c26, c27, c28, c29, c30, c31, c32, c33, c34, c35, c36, c37, c38, c39, c40, c41, c42, c43, c44, c45, c46, c47, c48, c49, c50, c51, c52, c53, c54, c55, c56, c57, c58, c59, c60, c61, c62, c63, c64, c65, c66, u67, u68, u69, u70, u71, u72, u73, u74, u75, u76, u77, u78, u79, u80, u81, u82, u83, u84, u85, u86, u87, u88, u89, u90, u91, u92, u93, u94, u95, u96, u97, u98, u99, u100, u101, u102, u103, u104, u105, u106, u107, u108, u109, u110, u111, u112, u113, u114, u115, u116, u117, u118, u119, u120, u121, u122, u123, u124, u125, u126, u127, u128, u129, u130, u131, u132, u133, u134, u135, u136, u137, u138, u139, u140, u141, u142, u143, u144, u145, u146, u147, u148, u149, u150, u151, u152, u153, u154, u155, u156, u157, u158, u159, u160, u161, u162, u163, u164, u165, u166, u167, u168, u169, u170, u171, u172, u173, u174, u175, u176, c177, c178, c179, c180, c181, c182, c183, c184, c185, c186, c187, c188, c189, c190, c191, c192, c193, c194, c195, c196, c197, c198, c199, c200, c201, c202, c203, c204, c205, c206, c207, c208, c209, c210, c211, c212, c213, c214, c215, c216, c217, c218, c219, c220, c221, c222, c223, c224, c225, c226, c227, c228, c229, c230, c231, c232, c233, c234, c235, c236, c237, c238, c239, c240, c241, c242, c243, c244, c245, c246, c247, c248], []⟩ w := by
  obtain ⟨hc3, hch, hc0, hop, hx, hy, hil, hkl, hnl, hnm⟩ := hr
  rw [h2] at hop
  clear h2
  conv => arg 2; whnf
  go_wp2_with fail
  exact hK.out _ _ _ _ _ _ _ _ _ _ _ _ _ _ _ _ _ _ _ _ _ _ _ _ _ _ _ _ _ _ _ _ _ _ _ _ _ _ _ _ _ _ _ _ _ _ _ _ _ _ _ _ _ _ _ _ _ _ _ _ _ _ _ _ _ _ _ _ _ _ _ _ _ _ _ _ _ _ _ _ _ _ _ _ _ _ _ _ _ _ _ _ _ _ _ _ _ _ _ _ _ _ _ _ _ _ _ _ _ _ _ _ _ rfl
set_option maxRecDepth 100000 in
set_option maxHeartbeats 4000000 in
/-- The beginning, the end elsewhere: nothing. -/
theorem round_begin_no (hr : Reads w gs gh gm om nm nl i k ch cm x) (h2 : x.op = 2) (hp : p ≠ 0) (hK : Hid (∀ z10 z11 z67 z68 z69 z70 z71 z72 z73 z74 z75 z76 z77 z78 z79 z80 z81 z82 z83 z84 z85 z86 z87 z88 z89 z90 z91 z92 z93 z94 z95 z96 z97 z98 z99 z100 z101 z102 z103 z104 z105 z106 z107 z108 z109 z110 z111 z112 z113 z114 z115 z116 z117 z118 z119 z120 z121 z122 z123 z124 z125 z126 z127 z128 z129 z130 z131 z132 z133 z134 z135 z136 z137 z138 z139 z140 z141 z142 z143 z144 z145 z146 z147 z148 z149 z150 z151 z152 z153 z154 z155 z156 z157 z158 z159 z160 z161 z162 z163 z164 z165 z166 z167 z168 z169 z170 z171 z172 z173 z174 z175 z176 last2, last2 = last → K ⟨#[.pointer (some ⟨gs, 0, none⟩), .slice A n c, c2, c3, c4, c5, c6, .int .i64 last2, .int .i64 (p : Nat), .int .i64 ((i : Int) + 1), z10, z11, c12, c13, c14, c15, c16, c17, c18, c19, c20, c21, c22, c23, c24, c25, c26, c27, c28, c29, c30, c31, c32, c33, c34, c35, c36, c37, c38, c39, c40, c41, c42, c43, c44, c45, c46, c47, c48, c49, c50, c51, c52, c53, c54, c55, c56, c57, c58, c59, c60, c61, c62, c63, c64, c65, c66, z67, z68, z69, z70, z71, z72, z73, z74, z75, z76, z77, z78, z79, z80, z81, z82, z83, z84, z85, z86, z87, z88, z89, z90, z91, z92, z93, z94, z95, z96, z97, z98, z99, z100, z101, z102, z103, z104, z105, z106, z107, z108, z109, z110, z111, z112, z113, z114, z115, z116, z117, z118, z119, z120, z121, z122, z123, z124, z125, z126, z127, z128, z129, z130, z131, z132, z133, z134, z135, z136, z137, z138, z139, z140, z141, z142, z143, z144, z145, z146, z147, z148, z149, z150, z151, z152, z153, z154, z155, z156, z157, z158, z159, z160, z161, z162, z163, z164, z165, z166, z167, z168, z169, z170, z171, z172, z173, z174, z175, z176, c177, c178, c179, c180, c181, c182, c183, c184, c185, c186, c187, c188, c189, c190, c191, c192, c193, c194, c195, c196, c197, c198, c199, c200, c201, c202, c203, c204, c205, c206, c207, c208, c209, c210, c211, c212, c213, c214, c215, c216, c217, c218, c219, c220, c221, c222, c223, c224, c225, c226, c227, c228, c229, c230, c231, c232, c233, c234, c235, c236, c237, c238, c239, c240, c241, c242, c243, c244, c245, c246, c247, c248], []⟩ w)) : body2.wp Try.prog (Exit.then K Q) ⟨#[.pointer (some ⟨gs, 0, none⟩), .slice A n c, c2, c3, c4, c5, c6, .int .i64 last, .int .i64 (p : Nat), .int .i64 (i : Nat), u10, u11, c12, c13, c14, c15, c16, c17, c18, c19, c20, c21, c22, c23, c24, c25, c26, c27, c28, c29, c30, c31, c32, c33, c34, c35, c36, c37, c38, c39, c40, c41, c42, c43, c44, c45, c46, c47, c48, c49, c50, c51, c52, c53, c54, c55, c56, c57, c58, c59, c60, c61, c62, c63, c64, c65, c66, u67, u68, u69, u70, u71, u72, u73, u74, u75, u76, u77, u78, u79, u80, u81, u82, u83, u84, u85, u86, u87, u88, u89, u90, u91, u92, u93, u94, u95, u96, u97, u98, u99, u100, u101, u102, u103, u104, u105, u106, u107, u108, u109, u110, u111, u112, u113, u114, u115, u116, u117, u118, u119, u120, u121, u122, u123, u124, u125, u126, u127, u128, u129, u130, u131, u132, u133, u134, u135, u136, u137, u138, u139, u140, u141, u142, u143, u144, u145, u146, u147, u148, u149, u150, u151, u152, u153, u154, u155, u156, u157, u158, u159, u160, u161, u162, u163, u164, u165, u166, u167, u168, u169, u170, u171, u172, u173, u174, u175, u176, c177, c178, c179, c180, c181, c182, c183, c184, c185, c186, c187, c188, c189, c190, c191, c192, c193, c194, c195, c196, c197, c198, c199, c200, c201, c202, c203, c204, c205, c206, c207, c208, c209, c210, c211, c212, c213, c214, c215, c216, c217, c218, c219, c220, c221, c222, c223, c224, c225, c226, c227, c228, c229, c230, c231, c232, c233, c234, c235, c236, c237, c238, c239, c240, c241, c242, c243, c244, c245, c246, c247, c248], []⟩ w := by
  obtain ⟨hc3, hch, hc0, hop, hx, hy, hil, hkl, hnl, hnm⟩ := hr
  rw [h2] at hop
  have hp' : ((p : Int) == 0) = false := by rw [beq_eq_false_iff_ne]; omega
  clear h2 hp
  conv => arg 2; whnf
  go_wp2_with fail
  exact hK.out _ _ _ _ _ _ _ _ _ _ _ _ _ _ _ _ _ _ _ _ _ _ _ _ _ _ _ _ _ _ _ _ _ _ _ _ _ _ _ _ _ _ _ _ _ _ _ _ _ _ _ _ _ _ _ _ _ _ _ _ _ _ _ _ _ _ _ _ _ _ _ _ _ _ _ _ _ _ _ _ _ _ _ _ _ _ _ _ _ _ _ _ _ _ _ _ _ _ _ _ _ _ _ _ _ _ _ _ _ _ _ _ _ rfl
set_option maxRecDepth 100000 in
set_option maxHeartbeats 4000000 in
theorem round_end_no (hr : Reads w gs gh gm om nm nl i k ch cm x) (h2 : x.op = 3) (hp : p ≠ n) (hK : Hid (∀ z10 z11 z67 z68 z69 z70 z71 z72 z73 z74 z75 z76 z77 z78 z79 z80 z81 z82 z83 z84 z85 z86 z87 z88 z89 z90 z91 z92 z93 z94 z95 z96 z97 z98 z99 z100 z101 z102 z103 z104 z105 z106 z107 z108 z109 z110 z111 z112 z113 z114 z115 z116 z117 z118 z119 z120 z121 z122 z123 z124 z125 z126 z127 z128 z129 z130 z131 z132 z133 z134 z135 z136 z137 z138 z139 z140 z141 z142 z143 z144 z145 z146 z147 z148 z149 z150 z151 z152 z153 z154 z155 z156 z157 z158 z159 z160 z161 z162 z163 z164 z165 z166 z167 z168 z169 z170 z171 z172 z173 z174 z175 z176 last2, last2 = last → K ⟨#[.pointer (some ⟨gs, 0, none⟩), .slice A n c, c2, c3, c4, c5, c6, .int .i64 last2, .int .i64 (p : Nat), .int .i64 ((i : Int) + 1), z10, z11, c12, c13, c14, c15, c16, c17, c18, c19, c20, c21, c22, c23, c24, c25, c26, c27, c28, c29, c30, c31, c32, c33, c34, c35, c36, c37, c38, c39, c40, c41, c42, c43, c44, c45, c46, c47, c48, c49, c50, c51, c52, c53, c54, c55, c56, c57, c58, c59, c60, c61, c62, c63, c64, c65, c66, z67, z68, z69, z70, z71, z72, z73, z74, z75, z76, z77, z78, z79, z80, z81, z82, z83, z84, z85, z86, z87, z88, z89, z90, z91, z92, z93, z94, z95, z96, z97, z98, z99, z100, z101, z102, z103, z104, z105, z106, z107, z108, z109, z110, z111, z112, z113, z114, z115, z116, z117, z118, z119, z120, z121, z122, z123, z124, z125, z126, z127, z128, z129, z130, z131, z132, z133, z134, z135, z136, z137, z138, z139, z140, z141, z142, z143, z144, z145, z146, z147, z148, z149, z150, z151, z152, z153, z154, z155, z156, z157, z158, z159, z160, z161, z162, z163, z164, z165, z166, z167, z168, z169, z170, z171, z172, z173, z174, z175, z176, c177, c178, c179, c180, c181, c182, c183, c184, c185, c186, c187, c188, c189, c190, c191, c192, c193, c194, c195, c196, c197, c198, c199, c200, c201, c202, c203, c204, c205, c206, c207, c208, c209, c210, c211, c212, c213, c214, c215, c216, c217, c218, c219, c220, c221, c222, c223, c224, c225, c226, c227, c228, c229, c230, c231, c232, c233, c234, c235, c236, c237, c238, c239, c240, c241, c242, c243, c244, c245, c246, c247, c248], []⟩ w)) : body2.wp Try.prog (Exit.then K Q) ⟨#[.pointer (some ⟨gs, 0, none⟩), .slice A n c, c2, c3, c4, c5, c6, .int .i64 last, .int .i64 (p : Nat), .int .i64 (i : Nat), u10, u11, c12, c13, c14, c15, c16, c17, c18, c19, c20, c21, c22, c23, c24, c25, c26, c27, c28, c29, c30, c31, c32, c33, c34, c35, c36, c37, c38, c39, c40, c41, c42, c43, c44, c45, c46, c47, c48, c49, c50, c51, c52, c53, c54, c55, c56, c57, c58, c59, c60, c61, c62, c63, c64, c65, c66, u67, u68, u69, u70, u71, u72, u73, u74, u75, u76, u77, u78, u79, u80, u81, u82, u83, u84, u85, u86, u87, u88, u89, u90, u91, u92, u93, u94, u95, u96, u97, u98, u99, u100, u101, u102, u103, u104, u105, u106, u107, u108, u109, u110, u111, u112, u113, u114, u115, u116, u117, u118, u119, u120, u121, u122, u123, u124, u125, u126, u127, u128, u129, u130, u131, u132, u133, u134, u135, u136, u137, u138, u139, u140, u141, u142, u143, u144, u145, u146, u147, u148, u149, u150, u151, u152, u153, u154, u155, u156, u157, u158, u159, u160, u161, u162, u163, u164, u165, u166, u167, u168, u169, u170, u171, u172, u173, u174, u175, u176, c177, c178, c179, c180, c181, c182, c183, c184, c185, c186, c187, c188, c189, c190, c191, c192, c193, c194, c195, c196, c197, c198, c199, c200, c201, c202, c203, c204, c205, c206, c207, c208, c209, c210, c211, c212, c213, c214, c215, c216, c217, c218, c219, c220, c221, c222, c223, c224, c225, c226, c227, c228, c229, c230, c231, c232, c233, c234, c235, c236, c237, c238, c239, c240, c241, c242, c243, c244, c245, c246, c247, c248], []⟩ w := by
  obtain ⟨hc3, hch, hc0, hop, hx, hy, hil, hkl, hnl, hnm⟩ := hr
  rw [h2] at hop
  have hp' : ((p : Int) == (n : Int)) = false := by rw [beq_eq_false_iff_ne]; omega
  clear h2 hp
  conv => arg 2; whnf
  go_wp2_with fail
  exact hK.out _ _ _ _ _ _ _ _ _ _ _ _ _ _ _ _ _ _ _ _ _ _ _ _ _ _ _ _ _ _ _ _ _ _ _ _ _ _ _ _ _ _ _ _ _ _ _ _ _ _ _ _ _ _ _ _ _ _ _ _ _ _ _ _ _ _ _ _ _ _ _ _ _ _ _ _ _ _ _ _ _ _ _ _ _ _ _ _ _ _ _ _ _ _ _ _ _ _ _ _ _ _ _ _ _ _ _ _ _ _ _ _ _ rfl
variable {w0 : World} {F : Blocks} {B : Nat} {M : List Instr} {vt : Value} {ge ce : Nat} {vo : Value} {l : List Nat} {Ly : List Int} {st : Int} {steps : Nat} {met : List Int} {E Er : List Bool}
    (hr : Reads w gs gh gm om nm nl i k ch cm x)
    (hst : Hid (ST false w0 w F B gs M (.slice (some ⟨gm, om, none⟩) nm cm) vt ge ce n (.slice (some ⟨gh, 0, none⟩) nl ch) vo l Ly st steps met E Er)) (hM : M.length ≤ 1048576) (hs : steps ≤ 2199023255552)
include hr hst hM hs
set_option maxRecDepth 100000 in
set_option maxHeartbeats 4000000 in
/-- The beginning: the next one. -/
theorem round_begin (h2 : x.op = 2) (hp : p = 0) (hX : k + 1 < M.length)
    (hK : Hid (∀ z10 z11 z67 z68 z69 z70 z71 z72 z73 z74 z75 z76 z77 z78 z79 z80 z81 z82 z83 z84 z85 z86 z87 z88 z89 z90 z91 z92 z93 z94 z95 z96 z97 z98 z99 z100 z101 z102 z103 z104 z105 z106 z107 z108 z109 z110 z111 z112 z113 z114 z115 z116 z117 z118 z119 z120 z121 z122 z123 z124 z125 z126 z127 z128 z129 z130 z131 z132 z133 z134 z135 z136 z137 z138 z139 z140 z141 z142 z143 z144 z145 z146 z147 z148 z149 z150 z151 z152 z153 z154 z155 z156 z157 z158 z159 z160 z161 z162 z163 z164 z165 z166 z167 z168 z169 z170 z171 z172 z173 z174 z175 z176 last2 w' A' m' c' met', last2 = last → ST false w0 w' F B gs M (.slice (some ⟨gm, om, none⟩) nm cm) vt ge ce n (.slice A' m' c') vo (addN l (k + 1)) Ly st (steps + ((addN l (k + 1)).length - l.length)) met' E Er → K ⟨#[.pointer (some ⟨gs, 0, none⟩), .slice A n c, c2, c3, c4, c5, c6, .int .i64 last2, .int .i64 (p : Nat), .int .i64 ((i : Int) + 1), z10, z11, c12, c13, c14, c15, c16, c17, c18, c19, c20, c21, c22, c23, c24, c25, c26, c27, c28, c29, c30, c31, c32, c33, c34, c35, c36, c37, c38, c39, c40, c41, c42, c43, c44, c45, c46, c47, c48, c49, c50, c51, c52, c53, c54, c55, c56, c57, c58, c59, c60, c61, c62, c63, c64, c65, c66, z67, z68, z69, z70, z71, z72, z73, z74, z75, z76, z77, z78, z79, z80, z81, z82, z83, z84, z85, z86, z87, z88, z89, z90, z91, z92, z93, z94, z95, z96, z97, z98, z99, z100, z101, z102, z103, z104, z105, z106, z107, z108, z109, z110, z111, z112, z113, z114, z115, z116, z117, z118, z119, z120, z121, z122, z123, z124, z125, z126, z127, z128, z129, z130, z131, z132, z133, z134, z135, z136, z137, z138, z139, z140, z141, z142, z143, z144, z145, z146, z147, z148, z149, z150, z151, z152, z153, z154, z155, z156, z157, z158, z159, z160, z161, z162, z163, z164, z165, z166, z167, z168, z169, z170, z171, z172, z173, z174, z175, z176, c177, c178, c179, c180, c181, c182, c183, c184, c185, c186, c187, c188, c189, c190, c191, c192, c193, c194, c195, c196, c197, c198, c199, c200, c201, c202, c203, c204, c205, c206, c207, c208, c209, c210, c211, c212, c213, c214, c215, c216, c217, c218, c219, c220, c221, c222, c223, c224, c225, c226, c227, c228, c229, c230, c231, c232, c233, c234, c235, c236, c237, c238, c239, c240, c241, c242, c243, c244, c245, c246, c247, c248], []⟩ w')) : body2.wp Try.prog (Exit.then K Q) ⟨#[.pointer (some ⟨gs, 0, none⟩), .slice A n c, c2, c3, c4, c5, c6, .int .i64 last, .int .i64 (p : Nat), .int .i64 (i : Nat), u10, u11, c12, c13, c14, c15, c16, c17, c18, c19, c20, c21, c22, c23, c24, c25, c26, c27, c28, c29, c30, c31, c32, c33, c34, c35, c36, c37, c38, c39, c40, c41, c42, c43, c44, c45, c46, c47, c48, c49, c50, c51, c52, c53, c54, c55, c56, c57, c58, c59, c60, c61, c62, c63, c64, c65, c66, u67, u68, u69, u70, u71, u72, u73, u74, u75, u76, u77, u78, u79, u80, u81, u82, u83, u84, u85, u86, u87, u88, u89, u90, u91, u92, u93, u94, u95, u96, u97, u98, u99, u100, u101, u102, u103, u104, u105, u106, u107, u108, u109, u110, u111, u112, u113, u114, u115, u116, u117, u118, u119, u120, u121, u122, u123, u124, u125, u126, u127, u128, u129, u130, u131, u132, u133, u134, u135, u136, u137, u138, u139, u140, u141, u142, u143, u144, u145, u146, u147, u148, u149, u150, u151, u152, u153, u154, u155, u156, u157, u158, u159, u160, u161, u162, u163, u164, u165, u166, u167, u168, u169, u170, u171, u172, u173, u174, u175, u176, c177, c178, c179, c180, c181, c182, c183, c184, c185, c186, c187, c188, c189, c190, c191, c192, c193, c194, c195, c196, c197, c198, c199, c200, c201, c202, c203, c204, c205, c206, c207, c208, c209, c210, c211, c212, c213, c214, c215, c216, c217, c218, c219, c220, c221, c222, c223, c224, c225, c226, c227, c228, c229, c230, c231, c232, c233, c234, c235, c236, c237, c238, c239, c240, c241, c242, c243, c244, c245, c246, c247, c248], []⟩ w := by
  obtain ⟨hc3, hch, hc0, hop, hx, hy, hil, hkl, hnl, hnm⟩ := hr
  rw [h2] at hop
  subst hp
  clear h2
  conv => arg 2; whnf
  go_wp2_with (go_at_call 33; refine (come_here hst.out (k + 1) hX (by omega) (by omega)).mono ?_; rintro e w1 ⟨A1, m1, c1, rfl, hcv, hfz, HS⟩)
  obtain ⟨met', hs'⟩ := HS.out
  exact hK.out _ _ _ _ _ _ _ _ _ _ _ _ _ _ _ _ _ _ _ _ _ _ _ _ _ _ _ _ _ _ _ _ _ _ _ _ _ _ _ _ _ _ _ _ _ _ _ _ _ _ _ _ _ _ _ _ _ _ _ _ _ _ _ _ _ _ _ _ _ _ _ _ _ _ _ _ _ _ _ _ _ _ _ _ _ _ _ _ _ _ _ _ _ _ _ _ _ _ _ _ _ _ _ _ _ _ _ _ _ _ _ _ _ _ _ _ _ met' rfl (hs' 0)
set_option maxRecDepth 100000 in
set_option maxHeartbeats 4000000 in
/-- The end: the next one. -/
theorem round_end (h2 : x.op = 3) (hp : p = n) (hX : k + 1 < M.length)
    (hK : Hid (∀ z10 z11 z67 z68 z69 z70 z71 z72 z73 z74 z75 z76 z77 z78 z79 z80 z81 z82 z83 z84 z85 z86 z87 z88 z89 z90 z91 z92 z93 z94 z95 z96 z97 z98 z99 z100 z101 z102 z103 z104 z105 z106 z107 z108 z109 z110 z111 z112 z113 z114 z115 z116 z117 z118 z119 z120 z121 z122 z123 z124 z125 z126 z127 z128 z129 z130 z131 z132 z133 z134 z135 z136 z137 z138 z139 z140 z141 z142 z143 z144 z145 z146 z147 z148 z149 z150 z151 z152 z153 z154 z155 z156 z157 z158 z159 z160 z161 z162 z163 z164 z165 z166 z167 z168 z169 z170 z171 z172 z173 z174 z175 z176 last2 w' A' m' c' met', last2 = last → ST false w0 w' F B gs M (.slice (some ⟨gm, om, none⟩) nm cm) vt ge ce n (.slice A' m' c') vo (addN l (k + 1)) Ly st (steps + ((addN l (k + 1)).length - l.length)) met' E Er → K ⟨#[.pointer (some ⟨gs, 0, none⟩), .slice A n c, c2, c3, c4, c5, c6, .int .i64 last2, .int .i64 (p : Nat), .int .i64 ((i : Int) + 1), z10, z11, c12, c13, c14, c15, c16, c17, c18, c19, c20, c21, c22, c23, c24, c25, c26, c27, c28, c29, c30, c31, c32, c33, c34, c35, c36, c37, c38, c39, c40, c41, c42, c43, c44, c45, c46, c47, c48, c49, c50, c51, c52, c53, c54, c55, c56, c57, c58, c59, c60, c61, c62, c63, c64, c65, c66, z67, z68, z69, z70, z71, z72, z73, z74, z75, z76, z77, z78, z79, z80, z81, z82, z83, z84, z85, z86, z87, z88, z89, z90, z91, z92, z93, z94, z95, z96, z97, z98, z99, z100, z101, z102, z103, z104, z105, z106, z107, z108, z109, z110, z111, z112, z113, z114, z115, z116, z117, z118, z119, z120, z121, z122, z123, z124, z125, z126, z127, z128, z129, z130, z131, z132, z133, z134, z135, z136, z137, z138, z139, z140, z141, z142, z143, z144, z145, z146, z147, z148, z149, z150, z151, z152, z153, z154, z155, z156, z157, z158, z159, z160, z161, z162, z163, z164, z165, z166, z167, z168, z169, z170, z171, z172, z173, z174, z175, z176, c177, c178, c179, c180, c181, c182, c183, c184, c185, c186, c187, c188, c189, c190, c191, c192, c193, c194, c195, c196, c197, c198, c199, c200, c201, c202, c203, c204, c205, c206, c207, c208, c209, c210, c211, c212, c213, c214, c215, c216, c217, c218, c219, c220, c221, c222, c223, c224, c225, c226, c227, c228, c229, c230, c231, c232, c233, c234, c235, c236, c237, c238, c239, c240, c241, c242, c243, c244, c245, c246, c247, c248], []⟩ w')) : body2.wp Try.prog (Exit.then K Q) ⟨#[.pointer (some ⟨gs, 0, none⟩), .slice A n c, c2, c3, c4, c5, c6, .int .i64 last, .int .i64 (p : Nat), .int .i64 (i : Nat), u10, u11, c12, c13, c14, c15, c16, c17, c18, c19, c20, c21, c22, c23, c24, c25, c26, c27, c28, c29, c30, c31, c32, c33, c34, c35, c36, c37, c38, c39, c40, c41, c42, c43, c44, c45, c46, c47, c48, c49, c50, c51, c52, c53, c54, c55, c56, c57, c58, c59, c60, c61, c62, c63, c64, c65, c66, u67, u68, u69, u70, u71, u72, u73, u74, u75, u76, u77, u78, u79, u80, u81, u82, u83, u84, u85, u86, u87, u88, u89, u90, u91, u92, u93, u94, u95, u96, u97, u98, u99, u100, u101, u102, u103, u104, u105, u106, u107, u108, u109, u110, u111, u112, u113, u114, u115, u116, u117, u118, u119, u120, u121, u122, u123, u124, u125, u126, u127, u128, u129, u130, u131, u132, u133, u134, u135, u136, u137, u138, u139, u140, u141, u142, u143, u144, u145, u146, u147, u148, u149, u150, u151, u152, u153, u154, u155, u156, u157, u158, u159, u160, u161, u162, u163, u164, u165, u166, u167, u168, u169, u170, u171, u172, u173, u174, u175, u176, c177, c178, c179, c180, c181, c182, c183, c184, c185, c186, c187, c188, c189, c190, c191, c192, c193, c194, c195, c196, c197, c198, c199, c200, c201, c202, c203, c204, c205, c206, c207, c208, c209, c210, c211, c212, c213, c214, c215, c216, c217, c218, c219, c220, c221, c222, c223, c224, c225, c226, c227, c228, c229, c230, c231, c232, c233, c234, c235, c236, c237, c238, c239, c240, c241, c242, c243, c244, c245, c246, c247, c248], []⟩ w := by
  obtain ⟨hc3, hch, hc0, hop, hx, hy, hil, hkl, hnl, hnm⟩ := hr
  rw [h2] at hop
  subst hp
  clear h2
  conv => arg 2; whnf
  go_wp2_with (go_at_call 33; refine (come_here hst.out (k + 1) hX (by omega) (by omega)).mono ?_; rintro e w1 ⟨A1, m1, c1, rfl, hcv, hfz, HS⟩)
  obtain ⟨met', hs'⟩ := HS.out
  exact hK.out _ _ _ _ _ _ _ _ _ _ _ _ _ _ _ _ _ _ _ _ _ _ _ _ _ _ _ _ _ _ _ _ _ _ _ _ _ _ _ _ _ _ _ _ _ _ _ _ _ _ _ _ _ _ _ _ _ _ _ _ _ _ _ _ _ _ _ _ _ _ _ _ _ _ _ _ _ _ _ _ _ _ _ _ _ _ _ _ _ _ _ _ _ _ _ _ _ _ _ _ _ _ _ _ _ _ _ _ _ _ _ _ _ _ _ _ _ met' rfl (hs' 0)
omit hM hs in
set_option maxRecDepth 100000 in
set_option maxHeartbeats 4000000 in
/-- An end. -/
theorem round_done (h2 : x.op = 6) (hp : p ≤ n)
    (hK : Hid (∀ z10 z11 z67 z68 z69 z70 z71 z72 z73 z74 z75 z76 z77 z78 z79 z80 z81 z82 z83 z84 z85 z86 z87 z88 z89 z90 z91 z92 z93 z94 z95 z96 z97 z98 z99 z100 z101 z102 z103 z104 z105 z106 z107 z108 z109 z110 z111 z112 z113 z114 z115 z116 z117 z118 z119 z120 z121 z122 z123 z124 z125 z126 z127 z128 z129 z130 z131 z132 z133 z134 z135 z136 z137 z138 z139 z140 z141 z142 z143 z144 z145 z146 z147 z148 z149 z150 z151 z152 z153 z154 z155 z156 z157 z158 z159 z160 z161 z162 z163 z164 z165 z166 z167 z168 z169 z170 z171 z172 z173 z174 z175 z176 last2 w' A' m' c' met', last2 = (p : Int) → ST false w0 w' F B gs M (.slice (some ⟨gm, om, none⟩) nm cm) vt ge ce n (.slice A' m' c') vo l Ly st steps met' (E.set p true) Er → K ⟨#[.pointer (some ⟨gs, 0, none⟩), .slice A n c, c2, c3, c4, c5, c6, .int .i64 last2, .int .i64 (p : Nat), .int .i64 ((i : Int) + 1), z10, z11, c12, c13, c14, c15, c16, c17, c18, c19, c20, c21, c22, c23, c24, c25, c26, c27, c28, c29, c30, c31, c32, c33, c34, c35, c36, c37, c38, c39, c40, c41, c42, c43, c44, c45, c46, c47, c48, c49, c50, c51, c52, c53, c54, c55, c56, c57, c58, c59, c60, c61, c62, c63, c64, c65, c66, z67, z68, z69, z70, z71, z72, z73, z74, z75, z76, z77, z78, z79, z80, z81, z82, z83, z84, z85, z86, z87, z88, z89, z90, z91, z92, z93, z94, z95, z96, z97, z98, z99, z100, z101, z102, z103, z104, z105, z106, z107, z108, z109, z110, z111, z112, z113, z114, z115, z116, z117, z118, z119, z120, z121, z122, z123, z124, z125, z126, z127, z128, z129, z130, z131, z132, z133, z134, z135, z136, z137, z138, z139, z140, z141, z142, z143, z144, z145, z146, z147, z148, z149, z150, z151, z152, z153, z154, z155, z156, z157, z158, z159, z160, z161, z162, z163, z164, z165, z166, z167, z168, z169, z170, z171, z172, z173, z174, z175, z176, c177, c178, c179, c180, c181, c182, c183, c184, c185, c186, c187, c188, c189, c190, c191, c192, c193, c194, c195, c196, c197, c198, c199, c200, c201, c202, c203, c204, c205, c206, c207, c208, c209, c210, c211, c212, c213, c214, c215, c216, c217, c218, c219, c220, c221, c222, c223, c224, c225, c226, c227, c228, c229, c230, c231, c232, c233, c234, c235, c236, c237, c238, c239, c240, c241, c242, c243, c244, c245, c246, c247, c248], []⟩ w')) : body2.wp Try.prog (Exit.then K Q) ⟨#[.pointer (some ⟨gs, 0, none⟩), .slice A n c, c2, c3, c4, c5, c6, .int .i64 last, .int .i64 (p : Nat), .int .i64 (i : Nat), u10, u11, c12, c13, c14, c15, c16, c17, c18, c19, c20, c21, c22, c23, c24, c25, c26, c27, c28, c29, c30, c31, c32, c33, c34, c35, c36, c37, c38, c39, c40, c41, c42, c43, c44, c45, c46, c47, c48, c49, c50, c51, c52, c53, c54, c55, c56, c57, c58, c59, c60, c61, c62, c63, c64, c65, c66, u67, u68, u69, u70, u71, u72, u73, u74, u75, u76, u77, u78, u79, u80, u81, u82, u83, u84, u85, u86, u87, u88, u89, u90, u91, u92, u93, u94, u95, u96, u97, u98, u99, u100, u101, u102, u103, u104, u105, u106, u107, u108, u109, u110, u111, u112, u113, u114, u115, u116, u117, u118, u119, u120, u121, u122, u123, u124, u125, u126, u127, u128, u129, u130, u131, u132, u133, u134, u135, u136, u137, u138, u139, u140, u141, u142, u143, u144, u145, u146, u147, u148, u149, u150, u151, u152, u153, u154, u155, u156, u157, u158, u159, u160, u161, u162, u163, u164, u165, u166, u167, u168, u169, u170, u171, u172, u173, u174, u175, u176, c177, c178, c179, c180, c181, c182, c183, c184, c185, c186, c187, c188, c189, c190, c191, c192, c193, c194, c195, c196, c197, c198, c199, c200, c201, c202, c203, c204, c205, c206, c207, c208, c209, c210, c211, c212, c213, c214, c215, c216, c217, c218, c219, c220, c221, c222, c223, c224, c225, c226, c227, c228, c229, c230, c231, c232, c233, c234, c235, c236, c237, c238, c239, c240, c241, c242, c243, c244, c245, c246, c247, c248], []⟩ w := by
  obtain ⟨hc3, hch, hc0, hop, hx, hy, hil, hkl, hnl, hnm⟩ := hr
  rw [h2] at hop
  clear h2
  obtain ⟨hc5, ⟨b5, hcb⟩, hfb, hce, hst5⟩ := hst.out.mark hp
  have HS := Lib.hid hst5
  clear hst5
  conv => arg 2; whnf
  go_wp2_with fail
  exact hK.out _ _ _ _ _ _ _ _ _ _ _ _ _ _ _ _ _ _ _ _ _ _ _ _ _ _ _ _ _ _ _ _ _ _ _ _ _ _ _ _ _ _ _ _ _ _ _ _ _ _ _ _ _ _ _ _ _ _ _ _ _ _ _ _ _ _ _ _ _ _ _ _ _ _ _ _ _ _ _ _ _ _ _ _ _ _ _ _ _ _ _ _ _ _ _ _ _ _ _ _ _ _ _ _ _ _ _ _ _ _ _ _ _ _ _ _ _ met rfl HS.out
set_option maxRecDepth 100000 in
set_option maxHeartbeats 4000000 in
/-- A jump. -/
theorem round_jump (h2 : x.op = 4) (X : Nat) (hX : x.x = X) (hXM : X < M.length)
    (hK : Hid (∀ z10 z11 z67 z68 z69 z70 z71 z72 z73 z74 z75 z76 z77 z78 z79 z80 z81 z82 z83 z84 z85 z86 z87 z88 z89 z90 z91 z92 z93 z94 z95 z96 z97 z98 z99 z100 z101 z102 z103 z104 z105 z106 z107 z108 z109 z110 z111 z112 z113 z114 z115 z116 z117 z118 z119 z120 z121 z122 z123 z124 z125 z126 z127 z128 z129 z130 z131 z132 z133 z134 z135 z136 z137 z138 z139 z140 z141 z142 z143 z144 z145 z146 z147 z148 z149 z150 z151 z152 z153 z154 z155 z156 z157 z158 z159 z160 z161 z162 z163 z164 z165 z166 z167 z168 z169 z170 z171 z172 z173 z174 z175 z176 last2 w' A' m' c' met', last2 = last → ST false w0 w' F B gs M (.slice (some ⟨gm, om, none⟩) nm cm) vt ge ce n (.slice A' m' c') vo (addN l X) Ly st (steps + ((addN l X).length - l.length)) met' E Er → K ⟨#[.pointer (some ⟨gs, 0, none⟩), .slice A n c, c2, c3, c4, c5, c6, .int .i64 last2, .int .i64 (p : Nat), .int .i64 ((i : Int) + 1), z10, z11, c12, c13, c14, c15, c16, c17, c18, c19, c20, c21, c22, c23, c24, c25, c26, c27, c28, c29, c30, c31, c32, c33, c34, c35, c36, c37, c38, c39, c40, c41, c42, c43, c44, c45, c46, c47, c48, c49, c50, c51, c52, c53, c54, c55, c56, c57, c58, c59, c60, c61, c62, c63, c64, c65, c66, z67, z68, z69, z70, z71, z72, z73, z74, z75, z76, z77, z78, z79, z80, z81, z82, z83, z84, z85, z86, z87, z88, z89, z90, z91, z92, z93, z94, z95, z96, z97, z98, z99, z100, z101, z102, z103, z104, z105, z106, z107, z108, z109, z110, z111, z112, z113, z114, z115, z116, z117, z118, z119, z120, z121, z122, z123, z124, z125, z126, z127, z128, z129, z130, z131, z132, z133, z134, z135, z136, z137, z138, z139, z140, z141, z142, z143, z144, z145, z146, z147, z148, z149, z150, z151, z152, z153, z154, z155, z156, z157, z158, z159, z160, z161, z162, z163, z164, z165, z166, z167, z168, z169, z170, z171, z172, z173, z174, z175, z176, c177, c178, c179, c180, c181, c182, c183, c184, c185, c186, c187, c188, c189, c190, c191, c192, c193, c194, c195, c196, c197, c198, c199, c200, c201, c202, c203, c204, c205, c206, c207, c208, c209, c210, c211, c212, c213, c214, c215, c216, c217, c218, c219, c220, c221, c222, c223, c224, c225, c226, c227, c228, c229, c230, c231, c232, c233, c234, c235, c236, c237, c238, c239, c240, c241, c242, c243, c244, c245, c246, c247, c248], []⟩ w')) : body2.wp Try.prog (Exit.then K Q) ⟨#[.pointer (some ⟨gs, 0, none⟩), .slice A n c, c2, c3, c4, c5, c6, .int .i64 last, .int .i64 (p : Nat), .int .i64 (i : Nat), u10, u11, c12, c13, c14, c15, c16, c17, c18, c19, c20, c21, c22, c23, c24, c25, c26, c27, c28, c29, c30, c31, c32, c33, c34, c35, c36, c37, c38, c39, c40, c41, c42, c43, c44, c45, c46, c47, c48, c49, c50, c51, c52, c53, c54, c55, c56, c57, c58, c59, c60, c61, c62, c63, c64, c65, c66, u67, u68, u69, u70, u71, u72, u73, u74, u75, u76, u77, u78, u79, u80, u81, u82, u83, u84, u85, u86, u87, u88, u89, u90, u91, u92, u93, u94, u95, u96, u97, u98, u99, u100, u101, u102, u103, u104, u105, u106, u107, u108, u109, u110, u111, u112, u113, u114, u115, u116, u117, u118, u119, u120, u121, u122, u123, u124, u125, u126, u127, u128, u129, u130, u131, u132, u133, u134, u135, u136, u137, u138, u139, u140, u141, u142, u143, u144, u145, u146, u147, u148, u149, u150, u151, u152, u153, u154, u155, u156, u157, u158, u159, u160, u161, u162, u163, u164, u165, u166, u167, u168, u169, u170, u171, u172, u173, u174, u175, u176, c177, c178, c179, c180, c181, c182, c183, c184, c185, c186, c187, c188, c189, c190, c191, c192, c193, c194, c195, c196, c197, c198, c199, c200, c201, c202, c203, c204, c205, c206, c207, c208, c209, c210, c211, c212, c213, c214, c215, c216, c217, c218, c219, c220, c221, c222, c223, c224, c225, c226, c227, c228, c229, c230, c231, c232, c233, c234, c235, c236, c237, c238, c239, c240, c241, c242, c243, c244, c245, c246, c247, c248], []⟩ w := by
  obtain ⟨hc3, hch, hc0, hop, hx, hy, hil, hkl, hnl, hnm⟩ := hr
  rw [h2] at hop
  rw [hX] at hx
  clear h2 hX
  conv => arg 2; whnf
  go_wp2_with fail
  refine wp_region_noPanic ?_
  go_region_with (go_at_call 33; refine (come_here hst.out.drew X hXM (by omega) (by omega)).mono ?_; rintro e w1 ⟨A1, m1, c1, rfl, hcv, hfz, HS⟩)
  all_goals
    refine NoPanic.normal ?_
    go_wp2_with fail
    obtain ⟨met', hs'⟩ := HS.out
    exact hK.out _ _ _ _ _ _ _ _ _ _ _ _ _ _ _ _ _ _ _ _ _ _ _ _ _ _ _ _ _ _ _ _ _ _ _ _ _ _ _ _ _ _ _ _ _ _ _ _ _ _ _ _ _ _ _ _ _ _ _ _ _ _ _ _ _ _ _ _ _ _ _ _ _ _ _ _ _ _ _ _ _ _ _ _ _ _ _ _ _ _ _ _ _ _ _ _ _ _ _ _ _ _ _ _ _ _ _ _ _ _ _ _ _ _ _ _ _ met' rfl (hs' 0)
set_option maxRecDepth 100000 in
set_option maxHeartbeats 4000000 in
/-- A split. -/
theorem round_split (h2 : x.op = 5) (X Y : Nat) (hX : x.x = X) (hXM : X < M.length) (hY : x.y = Y) (hYM : Y < M.length) (hkM : k < M.length) (hMk : M[k] = x)
    (hK : Hid (∀ z10 z11 z67 z68 z69 z70 z71 z72 z73 z74 z75 z76 z77 z78 z79 z80 z81 z82 z83 z84 z85 z86 z87 z88 z89 z90 z91 z92 z93 z94 z95 z96 z97 z98 z99 z100 z101 z102 z103 z104 z105 z106 z107 z108 z109 z110 z111 z112 z113 z114 z115 z116 z117 z118 z119 z120 z121 z122 z123 z124 z125 z126 z127 z128 z129 z130 z131 z132 z133 z134 z135 z136 z137 z138 z139 z140 z141 z142 z143 z144 z145 z146 z147 z148 z149 z150 z151 z152 z153 z154 z155 z156 z157 z158 z159 z160 z161 z162 z163 z164 z165 z166 z167 z168 z169 z170 z171 z172 z173 z174 z175 z176 last2 w' A' m' c' met', last2 = last → ST false w0 w' F B gs M (.slice (some ⟨gm, om, none⟩) nm cm) vt ge ce n (.slice A' m' c') vo (addN (addN l X) Y) Ly st (steps + ((addN l X).length - l.length) + ((addN (addN l X) Y).length - (addN l X).length)) met' E Er → K ⟨#[.pointer (some ⟨gs, 0, none⟩), .slice A n c, c2, c3, c4, c5, c6, .int .i64 last2, .int .i64 (p : Nat), .int .i64 ((i : Int) + 1), z10, z11, c12, c13, c14, c15, c16, c17, c18, c19, c20, c21, c22, c23, c24, c25, c26, c27, c28, c29, c30, c31, c32, c33, c34, c35, c36, c37, c38, c39, c40, c41, c42, c43, c44, c45, c46, c47, c48, c49, c50, c51, c52, c53, c54, c55, c56, c57, c58, c59, c60, c61, c62, c63, c64, c65, c66, z67, z68, z69, z70, z71, z72, z73, z74, z75, z76, z77, z78, z79, z80, z81, z82, z83, z84, z85, z86, z87, z88, z89, z90, z91, z92, z93, z94, z95, z96, z97, z98, z99, z100, z101, z102, z103, z104, z105, z106, z107, z108, z109, z110, z111, z112, z113, z114, z115, z116, z117, z118, z119, z120, z121, z122, z123, z124, z125, z126, z127, z128, z129, z130, z131, z132, z133, z134, z135, z136, z137, z138, z139, z140, z141, z142, z143, z144, z145, z146, z147, z148, z149, z150, z151, z152, z153, z154, z155, z156, z157, z158, z159, z160, z161, z162, z163, z164, z165, z166, z167, z168, z169, z170, z171, z172, z173, z174, z175, z176, c177, c178, c179, c180, c181, c182, c183, c184, c185, c186, c187, c188, c189, c190, c191, c192, c193, c194, c195, c196, c197, c198, c199, c200, c201, c202, c203, c204, c205, c206, c207, c208, c209, c210, c211, c212, c213, c214, c215, c216, c217, c218, c219, c220, c221, c222, c223, c224, c225, c226, c227, c228, c229, c230, c231, c232, c233, c234, c235, c236, c237, c238, c239, c240, c241, c242, c243, c244, c245, c246, c247, c248], []⟩ w')) : body2.wp Try.prog (Exit.then K Q) ⟨#[.pointer (some ⟨gs, 0, none⟩), .slice A n c, c2, c3, c4, c5, c6, .int .i64 last, .int .i64 (p : Nat), .int .i64 (i : Nat), u10, u11, c12, c13, c14, c15, c16, c17, c18, c19, c20, c21, c22, c23, c24, c25, c26, c27, c28, c29, c30, c31, c32, c33, c34, c35, c36, c37, c38, c39, c40, c41, c42, c43, c44, c45, c46, c47, c48, c49, c50, c51, c52, c53, c54, c55, c56, c57, c58, c59, c60, c61, c62, c63, c64, c65, c66, u67, u68, u69, u70, u71, u72, u73, u74, u75, u76, u77, u78, u79, u80, u81, u82, u83, u84, u85, u86, u87, u88, u89, u90, u91, u92, u93, u94, u95, u96, u97, u98, u99, u100, u101, u102, u103, u104, u105, u106, u107, u108, u109, u110, u111, u112, u113, u114, u115, u116, u117, u118, u119, u120, u121, u122, u123, u124, u125, u126, u127, u128, u129, u130, u131, u132, u133, u134, u135, u136, u137, u138, u139, u140, u141, u142, u143, u144, u145, u146, u147, u148, u149, u150, u151, u152, u153, u154, u155, u156, u157, u158, u159, u160, u161, u162, u163, u164, u165, u166, u167, u168, u169, u170, u171, u172, u173, u174, u175, u176, c177, c178, c179, c180, c181, c182, c183, c184, c185, c186, c187, c188, c189, c190, c191, c192, c193, c194, c195, c196, c197, c198, c199, c200, c201, c202, c203, c204, c205, c206, c207, c208, c209, c210, c211, c212, c213, c214, c215, c216, c217, c218, c219, c220, c221, c222, c223, c224, c225, c226, c227, c228, c229, c230, c231, c232, c233, c234, c235, c236, c237, c238, c239, c240, c241, c242, c243, c244, c245, c246, c247, c248], []⟩ w := by
  obtain ⟨hc3, hch, hc0, hop, hx, hy, hil, hkl, hnl, hnm⟩ := hr
  rw [h2] at hop
  rw [hX] at hx
  have HMk := Lib.hid hMk
  have HY := Lib.hid hY
  have hadd : (addN l X).length ≤ l.length + 1 := by unfold addN; split <;> simp
  clear h2 hX hMk hY
  conv => arg 2; whnf
  go_wp2_with fail
  go_cut [] from 142 to 154 (fun wc => ∃ A1 m1 c1 met1, ST false w0 wc F B gs M (.slice (some ⟨gm, om, none⟩) nm cm) vt ge ce n (.slice A1 m1 c1) vo (addN l X) Ly st (steps + ((addN l X).length - l.length)) met1 E Er)
  case first =>
    refine wp_region_noPanic ?_
    go_region_with (go_at_call 33; refine (come_here hst.out.drew X hXM (by omega) (by omega)).mono ?_; rintro e w1 ⟨A1, m1, c1, rfl, hcv, hfz, HS⟩)
    all_goals
      obtain ⟨met', hs'⟩ := HS.out
      refine NoPanic.normal ?_
      go_wp2_with fail
      go_meet
      case rel => exact ⟨A1, m1, c1, met', hs' 0⟩
  case rest =>
    obtain ⟨A1, m1, c1, met1, hst1⟩ := hcut
    have hd3 := hst1.blk.cell 3 _ rfl
    obtain ⟨Am, nm', cm', he, hnm', -, -, hsm⟩ := hst1.m.read
    simp only [Value.slice.injEq] at he
    obtain ⟨rfl, rfl, rfl⟩ := he
    obtain ⟨gm', om', he, -, hcs, -⟩ := instr_at hsm (Same.refl _ _) hkM
    simp only [Option.some.injEq, Addr.mk.injEq] at he
    obtain ⟨rfl, rfl, -⟩ := he
    rw [HMk.out] at hcs
    have hdy : wc.cell? ⟨gm, om + k * 7 + 6, none⟩ = some (.int .i64 Y) := by rw [← HY.out]; exact hcs 6 _ rfl
    have HST1 := Lib.hid hst1
    clear hst1 hsm hcs hnm' hc3 hch hc0 hop hx hy
    go_wp2_with fail
    refine wp_region_noPanic ?_
    go_region_with (go_at_call 33; refine (come_here HST1.out.drew Y hYM (by omega) (by omega)).mono ?_; rintro e w1 ⟨A1, m1, c1, rfl, hcv, hfz, HS⟩)
    all_goals
      refine NoPanic.normal ?_
      go_wp2_with fail
      obtain ⟨met', hs'⟩ := HS.out
      exact hK.out _ _ _ _ _ _ _ _ _ _ _ _ _ _ _ _ _ _ _ _ _ _ _ _ _ _ _ _ _ _ _ _ _ _ _ _ _ _ _ _ _ _ _ _ _ _ _ _ _ _ _ _ _ _ _ _ _ _ _ _ _ _ _ _ _ _ _ _ _ _ _ _ _ _ _ _ _ _ _ _ _ _ _ _ _ _ _ _ _ _ _ _ _ _ _ _ _ _ _ _ _ _ _ _ _ _ _ _ _ _ _ _ _ _ _ _ _ met' rfl (hs' 0)
end
end Go.Proofs.Ytfbaaccnnogajaa
