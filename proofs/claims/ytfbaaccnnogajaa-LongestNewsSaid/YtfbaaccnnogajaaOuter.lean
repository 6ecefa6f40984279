/- The outer loop of (longest.Search).from. Conditions: a well shaped machine; the state of a search; room. -/
import Derived.Test.YtfbaaccnnogajaaProg
import Derived.Test.YtfbaaccnnogajaaWay
import Derived.RegionTactic
namespace Go.Proofs.Ytfbaaccnnogajaa
open Go.RowKit

section
variable {w0 w : World} {F : Blocks} {B gs : Nat} {M : List Instr} {vm vt : Value} {ge ce n : Nat} {v vo : Value} {l : List Nat} {Ly : List Int} {st : Int} {steps : Nat} {met : List Int} {E Er : List Bool}
theorem Own.cutZero {α : Type} {r : Rep α} {e : TypeId} {w : World} {base : Nat} {A : Option Addr} {n c : Nat} {l : List α} (h : Own r e w base nob (.slice A n c) l) : Own r e w base nob (.slice A 0 c) ([] : List α) := by
  have hn : l.length = n := by obtain ⟨A', n', c', he, hn, _, _⟩ := h.form; simp at he; rw [he.2.1]; exact hn.out.symm
  simpa using h.cutTo (k := 0) hn (Nat.zero_le _)
theorem ownBlock_len (A : Option Addr) (n m c : Nat) : (Value.slice A n c).ownBlock = (Value.slice A m c).ownBlock := by cases A <;> rfl
/-- Another stamp, and the list of the way emptied. -/
theorem fresh_ST {Aw : Option Addr} {nw cw : Nat} (h : ST false w0 w F B gs M vm vt ge ce n v (.slice Aw nw cw) l Ly st steps met E Er) (hM : 0 < M.length) :
    Calls Try.prog 32 #[.pointer (some ⟨gs, 0, none⟩)] w fun e w' => e = .returned (.tuple #[]) ∧ w'.cell? ⟨gs, 3, none⟩ = some v ∧ w'.cell? ⟨gs, 4, none⟩ = some (.slice Aw nw cw) ∧ w'.frozen? ⟨gs, 4, none⟩ = false ∧
      Hid (∃ st' met', ∀ N, ST true w0 ((w'.setCell ⟨gs, 4, none⟩ (.slice Aw 0 cw)).drewN N) F B gs M vm vt ge ce n (.slice Aw 0 cw) v [] (ints l) st' steps met' E Er) := by
  obtain ⟨-, hmb, hst0, hst1⟩ := h.marks
  refine (fresh_any B gs vm vt st v (.slice Aw nw cw) _ steps met w h.blk h.t (by rw [h.tl]; exact hM) hst0 hst1 hmb).mono ?_
  rintro e w' ⟨rfl, met', st', hb, ht, hl, hlt, h0, h1, hon⟩
  refine ⟨rfl, hb.cell 3 _ rfl, hb.cell 4 _ rfl, hb.frozen 4, Lib.hid ⟨st', met', fun N => ?_⟩⟩
  have ho5 : Only (fun b => b = gs) w' (w'.setCell ⟨gs, 4, none⟩ (.slice Aw 0 cw)) := Only.setCell (F := fun b => b = gs) (Only.refl _ _) (.inl rfl) _
  have hb5 := Blk.set gs vm vt st' v (.slice Aw nw cw) _ _ hb st' vt v (.slice Aw 0 cw) _ _ 4 (.slice Aw 0 cw) rfl
  have hG : Only (fun b => b = gs ∨ some b = vt.ownBlock) w (w'.setCell ⟨gs, 4, none⟩ (.slice Aw 0 cw)) := hon.trans ho5 fun b h => .inl (.inl h)
  have hkeep : ∀ {α : Type} {r : Rep α} {e : TypeId} {u : Value} {L : List α}, Own r e w B nob u L → u.ownBlock ≠ some gs → (∀ b, vt.ownBlock = some b → u.ownBlock ≠ some b) → Own r e (w'.setCell ⟨gs, 4, none⟩ (.slice Aw 0 cw)) B nob u L := fun h h1 h2 => h.only hG fun b hb h => by
    rcases h with h | h
    · exact h1 (by rw [hb, h])
    · exact h2 b h.symm hb
  refine ST.drewN ⟨hb5, h.hB, ?_, ?_, hl.trans h.tl, ?_, h.el, ?_, ?_, ?_, Marks.none hlt h0 h1, by simp, by simp, ?_, h.fg, h.ft, h.fe, ?_, h.fh⟩ N
  · exact hkeep h.m h.ne_m (fun b hb => h.t.ne_type h.m (by decide) hb)
  · exact ht.only ho5 fun b hc e => h.ne_t (by rw [hc, e])
  · exact hkeep h.e (fun e => h.ne_e (by simpa [Value.ownBlock] using e)) (fun b hb => h.t.ne_type h.e (by decide) hb)
  · exact (hkeep h.y h.ne_y (fun b hb => h.t.ne_type h.y (by decide) hb)).cutZero
  · exact hkeep h.h h.ne_h (fun b hb => h.t.ne_type h.h (by decide) hb)
  · intro b hb hv
    rw [ownBlock_len Aw 0 nw] at hb
    exact h.hy b hv hb
  · refine h.on.trans hG fun b hb => ?_
    rcases hb with e | e
    · exact .inl (e ▸ h.fg)
    · exact .inl (h.ft b e)
  · intro b hb
    rw [ownBlock_len Aw 0 nw] at hb
    exact h.fy b hb
/-- here and way change places. -/
theorem ST.swap (h : ST true w0 w F B gs M vm vt ge ce n v vo l Ly st steps met E Er) : ST false w0 ((w.setCell ⟨gs, 3, none⟩ v).setCell ⟨gs, 4, none⟩ vo) F B gs M vm vt ge ce n v vo l Ly st steps met E Er := by
  have b1 := Blk.set gs vm vt st vo v _ _ h.blk st vt v v _ _ 3 v rfl
  have b2 := Blk.set gs vm vt st v v _ _ b1 st vt v vo _ _ 4 vo rfl
  have ho : Only (fun b => b = gs) w ((w.setCell ⟨gs, 3, none⟩ v).setCell ⟨gs, 4, none⟩ vo) := Only.setCell (F := fun b => b = gs) (Only.setCell (F := fun b => b = gs) (Only.refl _ _) (.inl rfl) _) (.inl rfl) _
  exact { h with
    blk := b2
    m := h.m.only ho fun b hb e => h.ne_m (by rw [hb, e])
    t := h.t.only ho fun b hb e => h.ne_t (by rw [hb, e])
    e := h.e.only ho fun b hb e => by simp [Value.ownBlock] at hb; exact h.ne_e (hb.trans e)
    h := h.h.only ho fun b hb e => h.ne_h (by rw [hb, e])
    y := h.y.only ho fun b hb e => h.ne_y (by rw [hb, e])
    on := h.on.trans ho fun b hb => .inl (by rw [hb]; exact h.fg) }
theorem foldl_pre : ∀ (ts l : List Nat), l <+: ts.foldl addN l := by
  intro ts
  induction ts with
  | nil => intro l; exact List.prefix_refl _
  | cons t ts ih => intro l; exact (addN_pre l t).trans (ih _)
theorem closeGo_pre (M : List Instr) (n p : Nat) : ∀ (f i : Nat) (l : List Nat), l <+: closeGo M n p f i l := by
  intro f
  induction f with
  | zero => intro i l; exact List.prefix_refl _
  | succ f ih =>
    intro i l
    rw [closeGo]
    split
    · exact List.prefix_refl _
    · refine List.IsPrefix.trans ?_ (ih _ _)
      exact foldl_pre _ l
theorem close_pre (M : List Instr) (n p : Nat) (l : List Nat) : l <+: close M n p l := closeGo_pre M n p _ _ l
end

section
variable {gs n c p : Nat} {A : Option Addr} {last : Int} {w : World} {c2 c3 c4 c5 c6 u9 u10 u11 c12 u13 u14 c15 c16 c17 c18 c19 c20 c21 c22 c23 c24 c25 c26 c27 c28 c29 c30 c31 c32 c33 c34 c35 c36 c37 c38 c39 c40 c41 c42 c43 c44 c45 c46 c47 c48 c49 c50 c51 c52 c53 c54 c55 c56 c57 c58 u59 u60 u61 u62 u63 u64 u65 u66 u67 u68 u69 u70 u71 u72 u73 u74 u75 u76 u77 u78 u79 u80 u81 u82 u83 u84 u85 u86 u87 u88 u89 u90 u91 u92 u93 u94 u95 u96 u97 u98 u99 u100 u101 u102 u103 u104 u105 u106 u107 u108 u109 u110 u111 u112 u113 u114 u115 u116 u117 u118 u119 u120 u121 u122 u123 u124 u125 u126 u127 u128 u129 u130 u131 u132 u133 u134 u135 u136 u137 u138 u139 u140 u141 u142 u143 u144 u145 u146 u147 u148 u149 u150 u151 u152 u153 u154 u155 u156 u157 u158 u159 u160 u161 u162 u163 u164 u165 u166 u167 u168 u169 u170 u171 u172 u173 u174 u175 u176 u177 u178 u179 u180 u181 u182 u183 u184 u185 u186 u187 u188 u189 u190 u191 u192 u193 u194 u195 u196 u197 u198 u199 u200 u201 u202 u203 u204 u205 u206 u207 u208 u209 u210 u211 u212 u213 u214 u215 u216 u217 u218 u219 u220 u221 u222 u223 u224 u225 u226 u227 u228 u229 u230 u231 u232 u233 u234 u235 u236 u237 u238 u239 u240 u241 u242 u243 u244 u245 u246 u247 c248 : Value} {K : Act → World → Prop} {Q : Exit → Act → World → Prop}
set_option maxRecDepth 100000 in
set_option maxHeartbeats 4000000 in
theorem outer_none {Ah : Option Addr} {ch : Nat} (hc3 : w.cell? ⟨gs, 3, none⟩ = some (.slice Ah 0 ch)) (hK : Hid (∀ z9 z10 z11 z13 z14 z59 z60 z61 z62 z63 z64 z65 z66 z67 z68 z69 z70 z71 z72 z73 z74 z75 z76 z77 z78 z79 z80 z81 z82 z83 z84 z85 z86 z87 z88 z89 z90 z91 z92 z93 z94 z95 z96 z97 z98 z99 z100 z101 z102 z103 z104 z105 z106 z107 z108 z109 z110 z111 z112 z113 z114 z115 z116 z117 z118 z119 z120 z121 z122 z123 z124 z125 z126 z127 z128 z129 z130 z131 z132 z133 z134 z135 z136 z137 z138 z139 z140 z141 z142 z143 z144 z145 z146 z147 z148 z149 z150 z151 z152 z153 z154 z155 z156 z157 z158 z159 z160 z161 z162 z163 z164 z165 z166 z167 z168 z169 z170 z171 z172 z173 z174 z175 z176 z177 z178 z179 z180 z181 z182 z183 z184 z185 z186 z187 z188 z189 z190 z191 z192 z193 z194 z195 z196 z197 z198 z199 z200 z201 z202 z203 z204 z205 z206 z207 z208 z209 z210 z211 z212 z213 z214 z215 z216 z217 z218 z219 z220 z221 z222 z223 z224 z225 z226 z227 z228 z229 z230 z231 z232 z233 z234 z235 z236 z237 z238 z239 z240 z241 z242 z243 z244 z245 z246 z247 last2, last2 = last → Q (.exit 0) ⟨#[.pointer (some ⟨gs, 0, none⟩), .slice A n c, c2, c3, c4, c5, c6, .int .i64 last2, .int .i64 (p : Nat), z9, z10, z11, c12, z13, z14, c15, c16, c17, c18, c19, c20, c21, c22, c23, c24, c25, c26, c27, c28, c29, c30, c31, c32, c33, c34, c35, c36, c37, c38, c39, c40, c41, c42, c43, c44, c45, c46, c47, c48, c49, c50, c51, c52, c53, c54, c55, c56, c57, c58, z59, z60, z61, z62, z63, z64, z65, z66, z67, z68, z69, z70, z71, z72, z73, z74, z75, z76, z77, z78, z79, z80, z81, z82, z83, z84, z85, z86, z87, z88, z89, z90, z91, z92, z93, z94, z95, z96, z97, z98, z99, z100, z101, z102, z103, z104, z105, z106, z107, z108, z109, z110, z111, z112, z113, z114, z115, z116, z117, z118, z119, z120, z121, z122, z123, z124, z125, z126, z127, z128, z129, z130, z131, z132, z133, z134, z135, z136, z137, z138, z139, z140, z141, z142, z143, z144, z145, z146, z147, z148, z149, z150, z151, z152, z153, z154, z155, z156, z157, z158, z159, z160, z161, z162, z163, z164, z165, z166, z167, z168, z169, z170, z171, z172, z173, z174, z175, z176, z177, z178, z179, z180, z181, z182, z183, z184, z185, z186, z187, z188, z189, z190, z191, z192, z193, z194, z195, z196, z197, z198, z199, z200, z201, z202, z203, z204, z205, z206, z207, z208, z209, z210, z211, z212, z213, z214, z215, z216, z217, z218, z219, z220, z221, z222, z223, z224, z225, z226, z227, z228, z229, z230, z231, z232, z233, z234, z235, z236, z237, z238, z239, z240, z241, z242, z243, z244, z245, z246, z247, c248], []⟩ w)) : body1.wp Try.prog (Exit.then K Q) ⟨#[.pointer (some ⟨gs, 0, none⟩), .slice A n c, c2, c3, c4, c5, c6, .int .i64 last, .int .i64 (p : Nat), u9, u10, u11, c12, u13, u14, c15, c16, c17, c18, c19, c20, c21, c22, c23, c24, c25, c26, c27, c28, c29, c30, c31, c32, c33, c34, c35, c36, c37, c38, c39, c40, c41, c42, c43, c44, c45, c46, c47, c48, c49, c50, c51, c52, c53, c54, c55, c56, c57, c58, u59, u60, u61, u62, u63, u64, u65, u66, u67, u68, u69, u70, u71, u72, u73, u74, u75, u76, u77, u78, u79, u80, u81, u82, u83, u84, u85, u86, u87, u88, u89, u90, u91, u92, u93, u94, u95, u96, u97, u98, u99, u100, u101, u102, u103, u104, u105, u106, u107, u108, u109, u110, u111, u112, u113, u114, u115, u116, u117, u118, u119, u120, u121, u122, u123, u124, u125, u126, u127, u128, u129, u130, u131, u132, u133, u134, u135, u136, u137, u138, u139, u140, u141, u142, u143, u144, u145, u146, u147, u148, u149, u150, u151, u152, u153, u154, u155, u156, u157, u158, u159, u160, u161, u162, u163, u164, u165, u166, u167, u168, u169, u170, u171, u172, u173, u174, u175, u176, u177, u178, u179, u180, u181, u182, u183, u184, u185, u186, u187, u188, u189, u190, u191, u192, u193, u194, u195, u196, u197, u198, u199, u200, u201, u202, u203, u204, u205, u206, u207, u208, u209, u210, u211, u212, u213, u214, u215, u216, u217, u218, u219, u220, u221, u222, u223, u224, u225, u226, u227, u228, u229, u230, u231, u232, u233, u234, u235, u236, u237, u238, u239, u240, u241, u242, u243, u244, u245, u246, u247, c248], []⟩ w := by
  conv => arg 2; whnf
  go_wp2_with fail
  exact hK.out _ _ _ _ _ _ _ _ _ _ _ _ _ _ _ _ _ _ _ _ _ _ _ _ _ _ _ _ _ _ _ _ _ _ _ _ _ _ _ _ _ _ _ _ _ _ _ _ _ _ _ _ _ _ _ _ _ _ _ _ _ _ _ _ _ _ _ _ _ _ _ _ _ _ _ _ _ _ _ _ _ _ _ _ _ _ _ _ _ _ _ _ _ _ _ _ _ _ _ _ _ _ _ _ _ _ _ _ _ _ _ _ _ _ _ _ _ _ _ _ _ _ _ _ _ _ _ _ _ _ _ _ _ _ _ _ _ _ _ _ _ _ _ _ _ _ _ _ _ _ _ _ _ _ _ _ _ _ _ _ _ _ _ _ _ _ _ _ _ _ _ _ _ _ _ _ _ _ _ _ _ _ _ _ _ _ _ _ _ _ _ _ _ _ _ rfl
variable {w0 : World} {F : Blocks} {B : Nat} {M : List Instr} {vm vt : Value} {ge ce : Nat} {Ah : Option Addr} {nh ch : Nat} {vo : Value} {l : List Nat} {Ly : List Int} {st : Int} {steps : Nat} {met : List Int} {E Er : List Bool}
    (hwf : Wf M) (hc3 : w.cell? ⟨gs, 3, none⟩ = some (.slice Ah nh ch)) (hnh : 0 < nh) (hst : Hid (ST false w0 w F B gs M vm vt ge ce n (.slice Ah nh ch) vo l Ly st steps met E Er)) (hM : M.length ≤ 1048576) (hs : steps ≤ 549755813888)
include hwf hc3 hnh hst hM hs
set_option maxRecDepth 100000 in
set_option maxHeartbeats 4000000 in
/-- The last place. -/
theorem outer_last (hp : p = n)
    (hK : Hid (∀ z9 z10 z11 z13 z14 z59 z60 z61 z62 z63 z64 z65 z66 z67 z68 z69 z70 z71 z72 z73 z74 z75 z76 z77 z78 z79 z80 z81 z82 z83 z84 z85 z86 z87 z88 z89 z90 z91 z92 z93 z94 z95 z96 z97 z98 z99 z100 z101 z102 z103 z104 z105 z106 z107 z108 z109 z110 z111 z112 z113 z114 z115 z116 z117 z118 z119 z120 z121 z122 z123 z124 z125 z126 z127 z128 z129 z130 z131 z132 z133 z134 z135 z136 z137 z138 z139 z140 z141 z142 z143 z144 z145 z146 z147 z148 z149 z150 z151 z152 z153 z154 z155 z156 z157 z158 z159 z160 z161 z162 z163 z164 z165 z166 z167 z168 z169 z170 z171 z172 z173 z174 z175 z176 z177 z178 z179 z180 z181 z182 z183 z184 z185 z186 z187 z188 z189 z190 z191 z192 z193 z194 z195 z196 z197 z198 z199 z200 z201 z202 z203 z204 z205 z206 z207 z208 z209 z210 z211 z212 z213 z214 z215 z216 z217 z218 z219 z220 z221 z222 z223 z224 z225 z226 z227 z228 z229 z230 z231 z232 z233 z234 z235 z236 z237 z238 z239 z240 z241 z242 z243 z244 z245 z246 z247 last2 w' v2 met2 steps2, ST false w0 w' F B gs M vm vt ge ce n v2 vo (close M n p l) Ly st steps2 met2 (if (close M n p l).any (isDone M) then E.set p true else E) Er → last2 = (if (close M n p l).any (isDone M) then (p : Int) else last) → steps2 + l.length = steps + (close M n p l).length → Q (.exit 0) ⟨#[.pointer (some ⟨gs, 0, none⟩), .slice A n c, c2, c3, c4, c5, c6, .int .i64 last2, .int .i64 (p : Nat), z9, z10, z11, c12, z13, z14, c15, c16, c17, c18, c19, c20, c21, c22, c23, c24, c25, c26, c27, c28, c29, c30, c31, c32, c33, c34, c35, c36, c37, c38, c39, c40, c41, c42, c43, c44, c45, c46, c47, c48, c49, c50, c51, c52, c53, c54, c55, c56, c57, c58, z59, z60, z61, z62, z63, z64, z65, z66, z67, z68, z69, z70, z71, z72, z73, z74, z75, z76, z77, z78, z79, z80, z81, z82, z83, z84, z85, z86, z87, z88, z89, z90, z91, z92, z93, z94, z95, z96, z97, z98, z99, z100, z101, z102, z103, z104, z105, z106, z107, z108, z109, z110, z111, z112, z113, z114, z115, z116, z117, z118, z119, z120, z121, z122, z123, z124, z125, z126, z127, z128, z129, z130, z131, z132, z133, z134, z135, z136, z137, z138, z139, z140, z141, z142, z143, z144, z145, z146, z147, z148, z149, z150, z151, z152, z153, z154, z155, z156, z157, z158, z159, z160, z161, z162, z163, z164, z165, z166, z167, z168, z169, z170, z171, z172, z173, z174, z175, z176, z177, z178, z179, z180, z181, z182, z183, z184, z185, z186, z187, z188, z189, z190, z191, z192, z193, z194, z195, z196, z197, z198, z199, z200, z201, z202, z203, z204, z205, z206, z207, z208, z209, z210, z211, z212, z213, z214, z215, z216, z217, z218, z219, z220, z221, z222, z223, z224, z225, z226, z227, z228, z229, z230, z231, z232, z233, z234, z235, z236, z237, z238, z239, z240, z241, z242, z243, z244, z245, z246, z247, c248], []⟩ w')) :
    body1.wp Try.prog (Exit.then K Q) ⟨#[.pointer (some ⟨gs, 0, none⟩), .slice A n c, c2, c3, c4, c5, c6, .int .i64 last, .int .i64 (p : Nat), u9, u10, u11, c12, u13, u14, c15, c16, c17, c18, c19, c20, c21, c22, c23, c24, c25, c26, c27, c28, c29, c30, c31, c32, c33, c34, c35, c36, c37, c38, c39, c40, c41, c42, c43, c44, c45, c46, c47, c48, c49, c50, c51, c52, c53, c54, c55, c56, c57, c58, u59, u60, u61, u62, u63, u64, u65, u66, u67, u68, u69, u70, u71, u72, u73, u74, u75, u76, u77, u78, u79, u80, u81, u82, u83, u84, u85, u86, u87, u88, u89, u90, u91, u92, u93, u94, u95, u96, u97, u98, u99, u100, u101, u102, u103, u104, u105, u106, u107, u108, u109, u110, u111, u112, u113, u114, u115, u116, u117, u118, u119, u120, u121, u122, u123, u124, u125, u126, u127, u128, u129, u130, u131, u132, u133, u134, u135, u136, u137, u138, u139, u140, u141, u142, u143, u144, u145, u146, u147, u148, u149, u150, u151, u152, u153, u154, u155, u156, u157, u158, u159, u160, u161, u162, u163, u164, u165, u166, u167, u168, u169, u170, u171, u172, u173, u174, u175, u176, u177, u178, u179, u180, u181, u182, u183, u184, u185, u186, u187, u188, u189, u190, u191, u192, u193, u194, u195, u196, u197, u198, u199, u200, u201, u202, u203, u204, u205, u206, u207, u208, u209, u210, u211, u212, u213, u214, u215, u216, u217, u218, u219, u220, u221, u222, u223, u224, u225, u226, u227, u228, u229, u230, u231, u232, u233, u234, u235, u236, u237, u238, u239, u240, u241, u242, u243, u244, u245, u246, u247, c248], []⟩ w := by
  have HP := Lib.hid hp
  clear hp
  conv => arg 2; whnf
  go_wp2_with fail
  refine inner hwf hst.out (by have := HP.out; omega) hM (by omega) ?_
  intro z9 z10 z11 z67 z68 z69 z70 z71 z72 z73 z74 z75 z76 z77 z78 z79 z80 z81 z82 z83 z84 z85 z86 z87 z88 z89 z90 z91 z92 z93 z94 z95 z96 z97 z98 z99 z100 z101 z102 z103 z104 z105 z106 z107 z108 z109 z110 z111 z112 z113 z114 z115 z116 z117 z118 z119 z120 z121 z122 z123 z124 z125 z126 z127 z128 z129 z130 z131 z132 z133 z134 z135 z136 z137 z138 z139 z140 z141 z142 z143 z144 z145 z146 z147 z148 z149 z150 z151 z152 z153 z154 z155 z156 z157 z158 z159 z160 z161 z162 z163 z164 z165 z166 z167 z168 z169 z170 z171 z172 z173 z174 z175 z176 last2 w' v2 met2 steps2 hst2 hl2 hs2
  have HST2 := Lib.hid hst2
  have HL2 := Lib.hid hl2
  have HS2 := Lib.hid hs2
  clear hst2 hl2 hs2
  obtain rfl := HP.out
  go_wp2_with fail
  exact hK.out _ _ _ _ _ _ _ _ _ _ _ _ _ _ _ _ _ _ _ _ _ _ _ _ _ _ _ _ _ _ _ _ _ _ _ _ _ _ _ _ _ _ _ _ _ _ _ _ _ _ _ _ _ _ _ _ _ _ _ _ _ _ _ _ _ _ _ _ _ _ _ _ _ _ _ _ _ _ _ _ _ _ _ _ _ _ _ _ _ _ _ _ _ _ _ _ _ _ _ _ _ _ _ _ _ _ _ _ _ _ _ _ _ _ _ _ _ _ _ _ _ _ _ _ _ _ _ _ _ _ _ _ _ _ _ _ _ _ _ _ _ _ _ _ _ _ _ _ _ _ _ _ _ _ _ _ _ _ _ _ _ _ _ _ _ _ _ _ _ _ _ _ _ _ _ _ _ _ _ _ _ _ _ _ _ _ _ _ _ _ _ _ _ _ last2 w' v2 met2 steps2 HST2.out HL2.out HS2.out
set_option maxRecDepth 100000 in
set_option maxHeartbeats 8000000 in
/-- A place with a byte behind it. -/
theorem outer_round {gt ot : Nat} {b : UInt8} (hA : A = some ⟨gt, ot, none⟩) (hp : p < n) (hn : n ≤ 1048576) (hM0 : 0 < M.length) (htx : ∀ W, Only F w0 W → W.cell? ⟨gt, ot + p, none⟩ = some (.int .u8 b.toNat))
    (hK : Hid (∀ z9 z10 z11 z13 z14 z59 z60 z61 z62 z63 z64 z65 z66 z67 z68 z69 z70 z71 z72 z73 z74 z75 z76 z77 z78 z79 z80 z81 z82 z83 z84 z85 z86 z87 z88 z89 z90 z91 z92 z93 z94 z95 z96 z97 z98 z99 z100 z101 z102 z103 z104 z105 z106 z107 z108 z109 z110 z111 z112 z113 z114 z115 z116 z117 z118 z119 z120 z121 z122 z123 z124 z125 z126 z127 z128 z129 z130 z131 z132 z133 z134 z135 z136 z137 z138 z139 z140 z141 z142 z143 z144 z145 z146 z147 z148 z149 z150 z151 z152 z153 z154 z155 z156 z157 z158 z159 z160 z161 z162 z163 z164 z165 z166 z167 z168 z169 z170 z171 z172 z173 z174 z175 z176 z177 z178 z179 z180 z181 z182 z183 z184 z185 z186 z187 z188 z189 z190 z191 z192 z193 z194 z195 z196 z197 z198 z199 z200 z201 z202 z203 z204 z205 z206 z207 z208 z209 z210 z211 z212 z213 z214 z215 z216 z217 z218 z219 z220 z221 z222 z223 z224 z225 z226 z227 z228 z229 z230 z231 z232 z233 z234 z235 z236 z237 z238 z239 z240 z241 z242 z243 z244 z245 z246 z247 last2 w' v3 vo3 Ly3 st3 met3 steps3, ST false w0 w' F B gs M vm vt ge ce n v3 vo3 (wayGo M b (close M n p l)) Ly3 st3 steps3 met3 (if (close M n p l).any (isDone M) then E.set p true else E) Er → last2 = (if (close M n p l).any (isDone M) then (p : Int) else last) → steps3 + l.length = steps + (close M n p l).length + (wayGo M b (close M n p l)).length → K ⟨#[.pointer (some ⟨gs, 0, none⟩), .slice A n c, c2, c3, c4, c5, c6, .int .i64 last2, .int .i64 ((p : Int) + 1), z9, z10, z11, c12, z13, z14, c15, c16, c17, c18, c19, c20, c21, c22, c23, c24, c25, c26, c27, c28, c29, c30, c31, c32, c33, c34, c35, c36, c37, c38, c39, c40, c41, c42, c43, c44, c45, c46, c47, c48, c49, c50, c51, c52, c53, c54, c55, c56, c57, c58, z59, z60, z61, z62, z63, z64, z65, z66, z67, z68, z69, z70, z71, z72, z73, z74, z75, z76, z77, z78, z79, z80, z81, z82, z83, z84, z85, z86, z87, z88, z89, z90, z91, z92, z93, z94, z95, z96, z97, z98, z99, z100, z101, z102, z103, z104, z105, z106, z107, z108, z109, z110, z111, z112, z113, z114, z115, z116, z117, z118, z119, z120, z121, z122, z123, z124, z125, z126, z127, z128, z129, z130, z131, z132, z133, z134, z135, z136, z137, z138, z139, z140, z141, z142, z143, z144, z145, z146, z147, z148, z149, z150, z151, z152, z153, z154, z155, z156, z157, z158, z159, z160, z161, z162, z163, z164, z165, z166, z167, z168, z169, z170, z171, z172, z173, z174, z175, z176, z177, z178, z179, z180, z181, z182, z183, z184, z185, z186, z187, z188, z189, z190, z191, z192, z193, z194, z195, z196, z197, z198, z199, z200, z201, z202, z203, z204, z205, z206, z207, z208, z209, z210, z211, z212, z213, z214, z215, z216, z217, z218, z219, z220, z221, z222, z223, z224, z225, z226, z227, z228, z229, z230, z231, z232, z233, z234, z235, z236, z237, z238, z239, z240, z241, z242, z243, z244, z245, z246, z247, c248], []⟩ w')) :
    body1.wp Try.prog (Exit.then K Q) ⟨#[.pointer (some ⟨gs, 0, none⟩), .slice A n c, c2, c3, c4, c5, c6, .int .i64 last, .int .i64 (p : Nat), u9, u10, u11, c12, u13, u14, c15, c16, c17, c18, c19, c20, c21, c22, c23, c24, c25, c26, c27, c28, c29, c30, c31, c32, c33, c34, c35, c36, c37, c38, c39, c40, c41, c42, c43, c44, c45, c46, c47, c48, c49, c50, c51, c52, c53, c54, c55, c56, c57, c58, u59, u60, u61, u62, u63, u64, u65, u66, u67, u68, u69, u70, u71, u72, u73, u74, u75, u76, u77, u78, u79, u80, u81, u82, u83, u84, u85, u86, u87, u88, u89, u90, u91, u92, u93, u94, u95, u96, u97, u98, u99, u100, u101, u102, u103, u104, u105, u106, u107, u108, u109, u110, u111, u112, u113, u114, u115, u116, u117, u118, u119, u120, u121, u122, u123, u124, u125, u126, u127, u128, u129, u130, u131, u132, u133, u134, u135, u136, u137, u138, u139, u140, u141, u142, u143, u144, u145, u146, u147, u148, u149, u150, u151, u152, u153, u154, u155, u156, u157, u158, u159, u160, u161, u162, u163, u164, u165, u166, u167, u168, u169, u170, u171, u172, u173, u174, u175, u176, u177, u178, u179, u180, u181, u182, u183, u184, u185, u186, u187, u188, u189, u190, u191, u192, u193, u194, u195, u196, u197, u198, u199, u200, u201, u202, u203, u204, u205, u206, u207, u208, u209, u210, u211, u212, u213, u214, u215, u216, u217, u218, u219, u220, u221, u222, u223, u224, u225, u226, u227, u228, u229, u230, u231, u232, u233, u234, u235, u236, u237, u238, u239, u240, u241, u242, u243, u244, u245, u246, u247, c248], []⟩ w := by
  have HT := Lib.hid htx
  have HA := Lib.hid hA
  have hpn : ((p : Int) == (n : Int)) = false := by rw [beq_eq_false_iff_ne]; omega
  have hl0 : 0 < l.length := by
    obtain ⟨_, _, _, he, hnl, -, -⟩ := hst.out.h.form
    simp only [Value.slice.injEq] at he
    obtain ⟨-, rfl, -⟩ := he
    have := hnl.out
    simp [ints] at this
    omega
  have HL0 := Lib.hid hl0
  clear htx hl0 hA
  conv => arg 2; whnf
  go_wp2_with fail
  refine inner hwf hst.out (by omega) hM (by omega) ?_
  intro z9 z10 z11 z67 z68 z69 z70 z71 z72 z73 z74 z75 z76 z77 z78 z79 z80 z81 z82 z83 z84 z85 z86 z87 z88 z89 z90 z91 z92 z93 z94 z95 z96 z97 z98 z99 z100 z101 z102 z103 z104 z105 z106 z107 z108 z109 z110 z111 z112 z113 z114 z115 z116 z117 z118 z119 z120 z121 z122 z123 z124 z125 z126 z127 z128 z129 z130 z131 z132 z133 z134 z135 z136 z137 z138 z139 z140 z141 z142 z143 z144 z145 z146 z147 z148 z149 z150 z151 z152 z153 z154 z155 z156 z157 z158 z159 z160 z161 z162 z163 z164 z165 z166 z167 z168 z169 z170 z171 z172 z173 z174 z175 z176 last2 w' v2 met2 steps2 hst2 hl2 hs2
  obtain ⟨E2, hE2⟩ : ∃ E2, E2 = (if (close M n p l).any (isDone M) then E.set p true else E) := ⟨_, rfl⟩
  rw [← hE2] at hst2
  have HE2 := Lib.hid hE2
  obtain ⟨here, hhere⟩ : ∃ here, here = close M n p l := ⟨_, rfl⟩
  rw [← hhere] at hst2 hs2
  have hpre := close_pre M n p l
  rw [← hhere] at hpre
  have hh0 : 0 < here.length := Nat.lt_of_lt_of_le HL0.out hpre.length_le
  have hhM := nodup_len _ here hst2.nd hst2.lt
  obtain ⟨gh, ch2, _, rfl, -, -, -, -, -, -⟩ := hst2.h.cellAt rfl (k := 0) (by simpa [ints] using hh0)
  obtain ⟨nh2, hnh2⟩ : ∃ nh2, nh2 = (ints here).length := ⟨_, rfl⟩
  rw [← hnh2] at hst2
  have hnhl : nh2 = here.length := by rw [hnh2]; simp [ints]
  have hnc2 : nh2 ≤ ch2 ∧ ch2 ≤ 9223372036854775807 := by
    obtain ⟨_, _, _, he, _, h1, h2⟩ := hst2.h.form
    simp only [Value.slice.injEq] at he
    obtain ⟨-, rfl, rfl⟩ := he
    exact ⟨h1, h2⟩
  obtain ⟨hnc2, hcm2⟩ := hnc2
  obtain ⟨Aw, nw, cw, rfl, -, hnw, hcw⟩ := hst2.y.form
  have hd3 := hst2.blk.cell 3 _ rfl
  have HLT := Lib.hid hst2.lt
  have HST2 := Lib.hid hst2
  have HL2 := Lib.hid hl2
  have HS2 := Lib.hid hs2
  have HH := Lib.hid hhere
  have HN2 := Lib.hid hnhl
  clear hst2 hl2 hs2 hE2 hpre hhere hnh2 hh0 hnhl hc3 hhM
  go_wp2_with (go_at_call 32; refine (fresh_ST HST2.out hM0).mono ?_; rintro e w3 ⟨rfl, hk3, hk4, hf4, HS⟩)
  obtain rfl := HA.out
  obtain ⟨st3, met3, hst3⟩ := HS.out
  have hst3 := hst3 0
  refine wayLoop hwf hst3 HLT.out hp hM (by have := HS2.out; have := HN2.out; have := nodup_len _ here HST2.out.nd HST2.out.lt; omega) HT.out ?_
  intro y13 y14 y197 y198 y199 y200 y201 y202 y203 y204 y205 y206 y207 y208 y209 y210 y211 y212 y213 y214 y215 y216 y217 y218 y219 y220 y221 y222 y223 y224 y225 y226 y227 y228 y229 y230 y231 y232 y233 y196 w4 v4 met4 hst4
  obtain ⟨A4, n4, c4, rfl, -, -, -⟩ := hst4.h.form
  have he3 := hst4.blk.cell 3 _ rfl
  have he4 := hst4.blk.cell 4 _ rfl
  have hf43 := hst4.blk.frozen 3
  have hf44 := hst4.blk.frozen 4
  have HST4 := Lib.hid hst4
  clear hst3 hst4 hk3 hk4 hf4 HS
  go_wp2_with fail
  refine wp_region_noPanic ?_
  go_region
  all_goals
    refine NoPanic.normal ?_
    go_wp2_with fail
    have hsw := HST4.out.swap.drew
    rw [← HE2.out, ← HH.out] at hK
    refine hK.out _ _ _ _ _ _ _ _ _ _ _ _ _ _ _ _ _ _ _ _ _ _ _ _ _ _ _ _ _ _ _ _ _ _ _ _ _ _ _ _ _ _ _ _ _ _ _ _ _ _ _ _ _ _ _ _ _ _ _ _ _ _ _ _ _ _ _ _ _ _ _ _ _ _ _ _ _ _ _ _ _ _ _ _ _ _ _ _ _ _ _ _ _ _ _ _ _ _ _ _ _ _ _ _ _ _ _ _ _ _ _ _ _ _ _ _ _ _ _ _ _ _ _ _ _ _ _ _ _ _ _ _ _ _ _ _ _ _ _ _ _ _ _ _ _ _ _ _ _ _ _ _ _ _ _ _ _ _ _ _ _ _ _ _ _ _ _ _ _ _ _ _ _ _ _ _ _ _ _ _ _ _ _ _ _ _ _ _ _ _ _ _ _ _ last2 _ _ _ _ _ met4 _ hsw (by rw [HH.out]; exact HL2.out) ?_
    have := HS2.out
    omega
end

section
variable {w0 : World} {F : Blocks} {B gs : Nat} {M : List Instr} {vm vt : Value} {ge ce n : Nat} {Er : List Bool} {c : Nat} {A : Option Addr}
/-- What is handed on at the outer loop's head. -/
def I1 (w0 : World) (F : Blocks) (B gs : Nat) (M : List Instr) (vm vt : Value) (ge ce n : Nat) (Er : List Bool) (c : Nat) (A : Option Addr) (text : List UInt8) (S0 : Nat) (R : List Bool × Int × Nat) (c2 c3 c4 c5 c6 c12 c15 c16 c17 c18 c19 c20 c21 c22 c23 c24 c25 c26 c27 c28 c29 c30 c31 c32 c33 c34 c35 c36 c37 c38 c39 c40 c41 c42 c43 c44 c45 c46 c47 c48 c49 c50 c51 c52 c53 c54 c55 c56 c57 c58 c248 : Value) (gk : Nat) (a : Act) (w : World) : Prop :=
  ∃ u9 u10 u11 u13 u14 u59 u60 u61 u62 u63 u64 u65 u66 u67 u68 u69 u70 u71 u72 u73 u74 u75 u76 u77 u78 u79 u80 u81 u82 u83 u84 u85 u86 u87 u88 u89 u90 u91 u92 u93 u94 u95 u96 u97 u98 u99 u100 u101 u102 u103 u104 u105 u106 u107 u108 u109 u110 u111 u112 u113 u114 u115 u116 u117 u118 u119 u120 u121 u122 u123 u124 u125 u126 u127 u128 u129 u130 u131 u132 u133 u134 u135 u136 u137 u138 u139 u140 u141 u142 u143 u144 u145 u146 u147 u148 u149 u150 u151 u152 u153 u154 u155 u156 u157 u158 u159 u160 u161 u162 u163 u164 u165 u166 u167 u168 u169 u170 u171 u172 u173 u174 u175 u176 u177 u178 u179 u180 u181 u182 u183 u184 u185 u186 u187 u188 u189 u190 u191 u192 u193 u194 u195 u196 u197 u198 u199 u200 u201 u202 u203 u204 u205 u206 u207 u208 u209 u210 u211 u212 u213 u214 u215 u216 u217 u218 u219 u220 u221 u222 u223 u224 u225 u226 u227 u228 u229 u230 u231 u232 u233 u234 u235 u236 u237 u238 u239 u240 u241 u242 u243 u244 u245 u246 u247 p last v vo l Ly st steps met E, ST false w0 w F B gs M vm vt ge ce n v vo l Ly st steps met E Er ∧ fromGo M text (n + 1 - p) p l E last steps = R ∧ (l ≠ [] → p ≤ n) ∧ steps ≤ S0 + 2 * (M.length * p) ∧ gk + p = n + 1 ∧ a = ⟨#[.pointer (some ⟨gs, 0, none⟩), .slice A n c, c2, c3, c4, c5, c6, .int .i64 last, .int .i64 (p : Nat), u9, u10, u11, c12, u13, u14, c15, c16, c17, c18, c19, c20, c21, c22, c23, c24, c25, c26, c27, c28, c29, c30, c31, c32, c33, c34, c35, c36, c37, c38, c39, c40, c41, c42, c43, c44, c45, c46, c47, c48, c49, c50, c51, c52, c53, c54, c55, c56, c57, c58, u59, u60, u61, u62, u63, u64, u65, u66, u67, u68, u69, u70, u71, u72, u73, u74, u75, u76, u77, u78, u79, u80, u81, u82, u83, u84, u85, u86, u87, u88, u89, u90, u91, u92, u93, u94, u95, u96, u97, u98, u99, u100, u101, u102, u103, u104, u105, u106, u107, u108, u109, u110, u111, u112, u113, u114, u115, u116, u117, u118, u119, u120, u121, u122, u123, u124, u125, u126, u127, u128, u129, u130, u131, u132, u133, u134, u135, u136, u137, u138, u139, u140, u141, u142, u143, u144, u145, u146, u147, u148, u149, u150, u151, u152, u153, u154, u155, u156, u157, u158, u159, u160, u161, u162, u163, u164, u165, u166, u167, u168, u169, u170, u171, u172, u173, u174, u175, u176, u177, u178, u179, u180, u181, u182, u183, u184, u185, u186, u187, u188, u189, u190, u191, u192, u193, u194, u195, u196, u197, u198, u199, u200, u201, u202, u203, u204, u205, u206, u207, u208, u209, u210, u211, u212, u213, u214, u215, u216, u217, u218, u219, u220, u221, u222, u223, u224, u225, u226, u227, u228, u229, u230, u231, u232, u233, u234, u235, u236, u237, u238, u239, u240, u241, u242, u243, u244, u245, u246, u247, c248], []⟩
theorem targets_lt (hwf : Wf M) (p : Nat) {k : Nat} (hk : k < M.length) : ∀ t ∈ targets M n p k, t < M.length := by
  rw [targets_at M n p hk]
  have h1 := hwf.x k hk
  have h2 := hwf.y k hk
  have h3 := hwf.next k hk
  intro t ht
  split at ht
  · split at ht <;> simp at ht
    have := h3 (by omega); omega
  split at ht
  · split at ht <;> simp at ht
    have := h3 (by omega); omega
  split at ht
  · simp at ht; omega
  split at ht
  · simp at ht; omega
  · simp at ht
theorem foldl_lt : ∀ (ts l : List Nat), (∀ t ∈ ts, t < M.length) → l.Nodup → (∀ k ∈ l, k < M.length) → (ts.foldl addN l).Nodup ∧ ∀ k ∈ ts.foldl addN l, k < M.length := by
  intro ts
  induction ts with
  | nil => intro l _ h1 h2; exact ⟨h1, h2⟩
  | cons t ts ih => intro l ht h1 h2; exact ih _ (fun x hx => ht x (by simp [hx])) (addN_nodup h1 t) (addN_lt h2 (ht t (by simp)))
theorem closeGo_lt (hwf : Wf M) (p : Nat) : ∀ (f i : Nat) (l : List Nat), l.Nodup → (∀ k ∈ l, k < M.length) → (closeGo M n p f i l).Nodup ∧ ∀ k ∈ closeGo M n p f i l, k < M.length := by
  intro f
  induction f with
  | zero => intro i l h1 h2; exact ⟨h1, h2⟩
  | succ f ih =>
    intro i l h1 h2
    rw [closeGo]
    split
    · exact ⟨h1, h2⟩
    · rename_i k hk
      have hkM := h2 k (List.mem_of_getElem? hk)
      obtain ⟨h3, h4⟩ := foldl_lt _ l (targets_lt hwf p hkM) h1 h2
      exact ih _ _ h3 h4
theorem close_lt (hwf : Wf M) (p : Nat) (l : List Nat) (h1 : l.Nodup) (h2 : ∀ k ∈ l, k < M.length) : (close M n p l).Nodup ∧ ∀ k ∈ close M n p l, k < M.length := closeGo_lt hwf p _ _ l h1 h2
set_option maxRecDepth 100000 in
set_option maxHeartbeats 4000000 in
theorem outer {at_ : Nat} {last : Int} {S : Blocks} {text : List UInt8} {w : World} {v vo : Value} {l : List Nat} {Ly : List Int} {st : Int} {steps : Nat} {met : List Int} {E : List Bool} {p : Nat} {c2 c3 c4 c5 c6 u9 u10 u11 c12 u13 u14 c15 c16 c17 c18 c19 c20 c21 c22 c23 c24 c25 c26 c27 c28 c29 c30 c31 c32 c33 c34 c35 c36 c37 c38 c39 c40 c41 c42 c43 c44 c45 c46 c47 c48 c49 c50 c51 c52 c53 c54 c55 c56 c57 c58 u59 u60 u61 u62 u63 u64 u65 u66 u67 u68 u69 u70 u71 u72 u73 u74 u75 u76 u77 u78 u79 u80 u81 u82 u83 u84 u85 u86 u87 u88 u89 u90 u91 u92 u93 u94 u95 u96 u97 u98 u99 u100 u101 u102 u103 u104 u105 u106 u107 u108 u109 u110 u111 u112 u113 u114 u115 u116 u117 u118 u119 u120 u121 u122 u123 u124 u125 u126 u127 u128 u129 u130 u131 u132 u133 u134 u135 u136 u137 u138 u139 u140 u141 u142 u143 u144 u145 u146 u147 u148 u149 u150 u151 u152 u153 u154 u155 u156 u157 u158 u159 u160 u161 u162 u163 u164 u165 u166 u167 u168 u169 u170 u171 u172 u173 u174 u175 u176 u177 u178 u179 u180 u181 u182 u183 u184 u185 u186 u187 u188 u189 u190 u191 u192 u193 u194 u195 u196 u197 u198 u199 u200 u201 u202 u203 u204 u205 u206 u207 u208 u209 u210 u211 u212 u213 u214 u215 u216 u217 u218 u219 u220 u221 u222 u223 u224 u225 u226 u227 u228 u229 u230 u231 u232 u233 u234 u235 u236 u237 u238 u239 u240 u241 u242 u243 u244 u245 u246 u247 c248 : Value} {Q : Exit → Act → World → Prop}
    (hwf : Wf M) (hst : ST false w0 w F B gs M vm vt ge ce n v vo l Ly st steps met E Er) (hM0 : 0 < M.length) (hM : M.length ≤ 1048576) (hn : n ≤ 1048576) (hMn : M.length * (n + 1) ≤ 68719476736) (hs : steps ≤ 274877906944) (hp : p ≤ n) (htx : SliceAt Rep.byte w0 S A c text) (hnt : n = text.length) (hS : ∀ b, S b → b < w0.heap.size ∧ ¬ F b)
    (hQ : ∀ z9 z10 z11 z13 z14 z59 z60 z61 z62 z63 z64 z65 z66 z67 z68 z69 z70 z71 z72 z73 z74 z75 z76 z77 z78 z79 z80 z81 z82 z83 z84 z85 z86 z87 z88 z89 z90 z91 z92 z93 z94 z95 z96 z97 z98 z99 z100 z101 z102 z103 z104 z105 z106 z107 z108 z109 z110 z111 z112 z113 z114 z115 z116 z117 z118 z119 z120 z121 z122 z123 z124 z125 z126 z127 z128 z129 z130 z131 z132 z133 z134 z135 z136 z137 z138 z139 z140 z141 z142 z143 z144 z145 z146 z147 z148 z149 z150 z151 z152 z153 z154 z155 z156 z157 z158 z159 z160 z161 z162 z163 z164 z165 z166 z167 z168 z169 z170 z171 z172 z173 z174 z175 z176 z177 z178 z179 z180 z181 z182 z183 z184 z185 z186 z187 z188 z189 z190 z191 z192 z193 z194 z195 z196 z197 z198 z199 z200 z201 z202 z203 z204 z205 z206 z207 z208 z209 z210 z211 z212 z213 z214 z215 z216 z217 z218 z219 z220 z221 z222 z223 z224 z225 z226 z227 z228 z229 z230 z231 z232 z233 z234 z235 z236 z237 z238 z239 z240 z241 z242 z243 z244 z245 z246 z247 (p : Nat) last2 w' v2 vo2 l2 Ly2 st2 steps2 met2 E2, ST false w0 w' F B gs M vm vt ge ce n v2 vo2 l2 Ly2 st2 steps2 met2 E2 Er → (E2, last2, steps2) = fromGo M text (n + 1 - at_) at_ l E last steps → Q (.exit 0) ⟨#[.pointer (some ⟨gs, 0, none⟩), .slice A n c, c2, c3, c4, c5, c6, .int .i64 last2, .int .i64 (p : Nat), z9, z10, z11, c12, z13, z14, c15, c16, c17, c18, c19, c20, c21, c22, c23, c24, c25, c26, c27, c28, c29, c30, c31, c32, c33, c34, c35, c36, c37, c38, c39, c40, c41, c42, c43, c44, c45, c46, c47, c48, c49, c50, c51, c52, c53, c54, c55, c56, c57, c58, z59, z60, z61, z62, z63, z64, z65, z66, z67, z68, z69, z70, z71, z72, z73, z74, z75, z76, z77, z78, z79, z80, z81, z82, z83, z84, z85, z86, z87, z88, z89, z90, z91, z92, z93, z94, z95, z96, z97, z98, z99, z100, z101, z102, z103, z104, z105, z106, z107, z108, z109, z110, z111, z112, z113, z114, z115, z116, z117, z118, z119, z120, z121, z122, z123, z124, z125, z126, z127, z128, z129, z130, z131, z132, z133, z134, z135, z136, z137, z138, z139, z140, z141, z142, z143, z144, z145, z146, z147, z148, z149, z150, z151, z152, z153, z154, z155, z156, z157, z158, z159, z160, z161, z162, z163, z164, z165, z166, z167, z168, z169, z170, z171, z172, z173, z174, z175, z176, z177, z178, z179, z180, z181, z182, z183, z184, z185, z186, z187, z188, z189, z190, z191, z192, z193, z194, z195, z196, z197, z198, z199, z200, z201, z202, z203, z204, z205, z206, z207, z208, z209, z210, z211, z212, z213, z214, z215, z216, z217, z218, z219, z220, z221, z222, z223, z224, z225, z226, z227, z228, z229, z230, z231, z232, z233, z234, z235, z236, z237, z238, z239, z240, z241, z242, z243, z244, z245, z246, z247, c248], []⟩ w') (hpa : p = at_) :
    (Code.loop body1).wp Try.prog Q ⟨#[.pointer (some ⟨gs, 0, none⟩), .slice A n c, c2, c3, c4, c5, c6, .int .i64 last, .int .i64 (p : Nat), u9, u10, u11, c12, u13, u14, c15, c16, c17, c18, c19, c20, c21, c22, c23, c24, c25, c26, c27, c28, c29, c30, c31, c32, c33, c34, c35, c36, c37, c38, c39, c40, c41, c42, c43, c44, c45, c46, c47, c48, c49, c50, c51, c52, c53, c54, c55, c56, c57, c58, u59, u60, u61, u62, u63, u64, u65, u66, u67, u68, u69, u70, u71, u72, u73, u74, u75, u76, u77, u78, u79, u80, u81, u82, u83, u84, u85, u86, u87, u88, u89, u90, u91, u92, u93, u94, u95, u96, u97, u98, u99, u100, u101, u102, u103, u104, u105, u106, u107, u108, u109, u110, u111, u112, u113, u114, u115, u116, u117, u118, u119, u120, u121, u122, u123, u124, u125, u126, u127, u128, u129, u130, u131, u132, u133, u134, u135, u136, u137, u138, u139, u140, u141, u142, u143, u144, u145, u146, u147, u148, u149, u150, u151, u152, u153, u154, u155, u156, u157, u158, u159, u160, u161, u162, u163, u164, u165, u166, u167, u168, u169, u170, u171, u172, u173, u174, u175, u176, u177, u178, u179, u180, u181, u182, u183, u184, u185, u186, u187, u188, u189, u190, u191, u192, u193, u194, u195, u196, u197, u198, u199, u200, u201, u202, u203, u204, u205, u206, u207, u208, u209, u210, u211, u212, u213, u214, u215, u216, u217, u218, u219, u220, u221, u222, u223, u224, u225, u226, u227, u228, u229, u230, u231, u232, u233, u234, u235, u236, u237, u238, u239, u240, u241, u242, u243, u244, u245, u246, u247, c248], []⟩ w := by
  subst hpa
  refine wp_loop_ghost_k (I1 w0 F B gs M vm vt ge ce n Er c A text steps (fromGo M text (n + 1 - p) p l E last steps) c2 c3 c4 c5 c6 c12 c15 c16 c17 c18 c19 c20 c21 c22 c23 c24 c25 c26 c27 c28 c29 c30 c31 c32 c33 c34 c35 c36 c37 c38 c39 c40 c41 c42 c43 c44 c45 c46 c47 c48 c49 c50 c51 c52 c53 c54 c55 c56 c57 c58 c248) (n + 1 - p) ?_ ?_
  · exact ⟨u9, u10, u11, u13, u14, u59, u60, u61, u62, u63, u64, u65, u66, u67, u68, u69, u70, u71, u72, u73, u74, u75, u76, u77, u78, u79, u80, u81, u82, u83, u84, u85, u86, u87, u88, u89, u90, u91, u92, u93, u94, u95, u96, u97, u98, u99, u100, u101, u102, u103, u104, u105, u106, u107, u108, u109, u110, u111, u112, u113, u114, u115, u116, u117, u118, u119, u120, u121, u122, u123, u124, u125, u126, u127, u128, u129, u130, u131, u132, u133, u134, u135, u136, u137, u138, u139, u140, u141, u142, u143, u144, u145, u146, u147, u148, u149, u150, u151, u152, u153, u154, u155, u156, u157, u158, u159, u160, u161, u162, u163, u164, u165, u166, u167, u168, u169, u170, u171, u172, u173, u174, u175, u176, u177, u178, u179, u180, u181, u182, u183, u184, u185, u186, u187, u188, u189, u190, u191, u192, u193, u194, u195, u196, u197, u198, u199, u200, u201, u202, u203, u204, u205, u206, u207, u208, u209, u210, u211, u212, u213, u214, u215, u216, u217, u218, u219, u220, u221, u222, u223, u224, u225, u226, u227, u228, u229, u230, u231, u232, u233, u234, u235, u236, u237, u238, u239, u240, u241, u242, u243, u244, u245, u246, u247, p, last, v, vo, l, Ly, st, steps, met, E, hst, rfl, fun _ => hp, Nat.le_add_right _ _, by omega, rfl⟩
  obtain ⟨R, hR⟩ : ∃ R, R = fromGo M text (n + 1 - p) p l E last steps := ⟨_, rfl⟩
  rw [← hR] at hQ ⊢
  obtain ⟨S0, hS0⟩ : ∃ S0, S0 = steps := ⟨_, rfl⟩
  rw [← hS0]
  rw [← hS0] at hs
  clear hR hS0 hst
  intro gk a w1 hI J K hJ hK
  unfold I1 at hI
  obtain ⟨u9, hI⟩ := hI; obtain ⟨u10, hI⟩ := hI; obtain ⟨u11, hI⟩ := hI; obtain ⟨u13, hI⟩ := hI; obtain ⟨u14, hI⟩ := hI; obtain ⟨u59, hI⟩ := hI; obtain ⟨u60, hI⟩ := hI; obtain ⟨u61, hI⟩ := hI; obtain ⟨u62, hI⟩ := hI; obtain ⟨u63, hI⟩ := hI; obtain ⟨u64, hI⟩ := hI; obtain ⟨u65, hI⟩ := hI; obtain ⟨u66, hI⟩ := hI; obtain ⟨u67, hI⟩ := hI; obtain ⟨u68, hI⟩ := hI; obtain ⟨u69, hI⟩ := hI; obtain ⟨u70, hI⟩ := hI; obtain ⟨u71, hI⟩ := hI; obtain ⟨u72, hI⟩ := hI; obtain ⟨u73, hI⟩ := hI; obtain ⟨u74, hI⟩ := hI; obtain ⟨u75, hI⟩ := hI; obtain ⟨u76, hI⟩ := hI; obtain ⟨u77, hI⟩ := hI; obtain ⟨u78, hI⟩ := hI; obtain ⟨u79, hI⟩ := hI; obtain ⟨u80, hI⟩ := hI; obtain ⟨u81, hI⟩ := hI; obtain ⟨u82, hI⟩ := hI; obtain ⟨u83, hI⟩ := hI; obtain ⟨u84, hI⟩ := hI; obtain ⟨u85, hI⟩ := hI; obtain ⟨u86, hI⟩ := hI; obtain ⟨u87, hI⟩ := hI; obtain ⟨u88, hI⟩ := hI; obtain ⟨u89, hI⟩ := hI; obtain ⟨u90, hI⟩ := hI; obtain ⟨u91, hI⟩ := hI; obtain ⟨u92, hI⟩ := hI; obtain ⟨u93, hI⟩ := hI; obtain ⟨u94, hI⟩ := hI; obtain ⟨u95, hI⟩ := hI; obtain ⟨u96, hI⟩ := hI; obtain ⟨u97, hI⟩ := hI; obtain ⟨u98, hI⟩ := hI; obtain ⟨u99, hI⟩ := hI; obtain ⟨u100, hI⟩ := hI; obtain ⟨u101, hI⟩ := hI; obtain ⟨u102, hI⟩ := hI; obtain ⟨u103, hI⟩ := hI; obtain ⟨u104, hI⟩ := hI; obtain ⟨u105, hI⟩ := hI; obtain ⟨u106, hI⟩ := hI; obtain ⟨u107, hI⟩ := hI; obtain ⟨u108, hI⟩ := hI; obtain ⟨u109, hI⟩ := hI; obtain ⟨u110, hI⟩ := hI; obtain ⟨u111, hI⟩ := hI; obtain ⟨u112, hI⟩ := hI; obtain ⟨u113, hI⟩ := hI; obtain ⟨u114, hI⟩ := hI; obtain ⟨u115, hI⟩ := hI; obtain ⟨u116, hI⟩ := hI; obtain ⟨u117, hI⟩ := hI; obtain ⟨u118, hI⟩ := hI; obtain ⟨u119, hI⟩ := hI; obtain ⟨u120, hI⟩ := hI; obtain ⟨u121, hI⟩ := hI; obtain ⟨u122, hI⟩ := hI; obtain ⟨u123, hI⟩ := hI; obtain ⟨u124, hI⟩ := hI; obtain ⟨u125, hI⟩ := hI; obtain ⟨u126, hI⟩ := hI; obtain ⟨u127, hI⟩ := hI; obtain ⟨u128, hI⟩ := hI; obtain ⟨u129, hI⟩ := hI; obtain ⟨u130, hI⟩ := hI; obtain ⟨u131, hI⟩ := hI; obtain ⟨u132, hI⟩ := hI; obtain ⟨u133, hI⟩ := hI; obtain ⟨u134, hI⟩ := hI; obtain ⟨u135, hI⟩ := hI; obtain ⟨u136, hI⟩ := hI; obtain ⟨u137, hI⟩ := hI; obtain ⟨u138, hI⟩ := hI; obtain ⟨u139, hI⟩ := hI; obtain ⟨u140, hI⟩ := hI; obtain ⟨u141, hI⟩ := hI; obtain ⟨u142, hI⟩ := hI; obtain ⟨u143, hI⟩ := hI; obtain ⟨u144, hI⟩ := hI; obtain ⟨u145, hI⟩ := hI; obtain ⟨u146, hI⟩ := hI; obtain ⟨u147, hI⟩ := hI; obtain ⟨u148, hI⟩ := hI; obtain ⟨u149, hI⟩ := hI; obtain ⟨u150, hI⟩ := hI; obtain ⟨u151, hI⟩ := hI; obtain ⟨u152, hI⟩ := hI; obtain ⟨u153, hI⟩ := hI; obtain ⟨u154, hI⟩ := hI; obtain ⟨u155, hI⟩ := hI; obtain ⟨u156, hI⟩ := hI; obtain ⟨u157, hI⟩ := hI; obtain ⟨u158, hI⟩ := hI; obtain ⟨u159, hI⟩ := hI; obtain ⟨u160, hI⟩ := hI; obtain ⟨u161, hI⟩ := hI; obtain ⟨u162, hI⟩ := hI; obtain ⟨u163, hI⟩ := hI; obtain ⟨u164, hI⟩ := hI; obtain ⟨u165, hI⟩ := hI; obtain ⟨u166, hI⟩ := hI; obtain ⟨u167, hI⟩ := hI; obtain ⟨u168, hI⟩ := hI; obtain ⟨u169, hI⟩ := hI; obtain ⟨u170, hI⟩ := hI; obtain ⟨u171, hI⟩ := hI; obtain ⟨u172, hI⟩ := hI; obtain ⟨u173, hI⟩ := hI; obtain ⟨u174, hI⟩ := hI; obtain ⟨u175, hI⟩ := hI; obtain ⟨u176, hI⟩ := hI; obtain ⟨u177, hI⟩ := hI; obtain ⟨u178, hI⟩ := hI; obtain ⟨u179, hI⟩ := hI; obtain ⟨u180, hI⟩ := hI; obtain ⟨u181, hI⟩ := hI; obtain ⟨u182, hI⟩ := hI; obtain ⟨u183, hI⟩ := hI; obtain ⟨u184, hI⟩ := hI; obtain ⟨u185, hI⟩ := hI; obtain ⟨u186, hI⟩ := hI; obtain ⟨u187, hI⟩ := hI; obtain ⟨u188, hI⟩ := hI; obtain ⟨u189, hI⟩ := hI; obtain ⟨u190, hI⟩ := hI; obtain ⟨u191, hI⟩ := hI; obtain ⟨u192, hI⟩ := hI; obtain ⟨u193, hI⟩ := hI; obtain ⟨u194, hI⟩ := hI; obtain ⟨u195, hI⟩ := hI; obtain ⟨u196, hI⟩ := hI; obtain ⟨u197, hI⟩ := hI; obtain ⟨u198, hI⟩ := hI; obtain ⟨u199, hI⟩ := hI; obtain ⟨u200, hI⟩ := hI; obtain ⟨u201, hI⟩ := hI; obtain ⟨u202, hI⟩ := hI; obtain ⟨u203, hI⟩ := hI; obtain ⟨u204, hI⟩ := hI; obtain ⟨u205, hI⟩ := hI; obtain ⟨u206, hI⟩ := hI; obtain ⟨u207, hI⟩ := hI; obtain ⟨u208, hI⟩ := hI; obtain ⟨u209, hI⟩ := hI; obtain ⟨u210, hI⟩ := hI; obtain ⟨u211, hI⟩ := hI; obtain ⟨u212, hI⟩ := hI; obtain ⟨u213, hI⟩ := hI; obtain ⟨u214, hI⟩ := hI; obtain ⟨u215, hI⟩ := hI; obtain ⟨u216, hI⟩ := hI; obtain ⟨u217, hI⟩ := hI; obtain ⟨u218, hI⟩ := hI; obtain ⟨u219, hI⟩ := hI; obtain ⟨u220, hI⟩ := hI; obtain ⟨u221, hI⟩ := hI; obtain ⟨u222, hI⟩ := hI; obtain ⟨u223, hI⟩ := hI; obtain ⟨u224, hI⟩ := hI; obtain ⟨u225, hI⟩ := hI; obtain ⟨u226, hI⟩ := hI; obtain ⟨u227, hI⟩ := hI; obtain ⟨u228, hI⟩ := hI; obtain ⟨u229, hI⟩ := hI; obtain ⟨u230, hI⟩ := hI; obtain ⟨u231, hI⟩ := hI; obtain ⟨u232, hI⟩ := hI; obtain ⟨u233, hI⟩ := hI; obtain ⟨u234, hI⟩ := hI; obtain ⟨u235, hI⟩ := hI; obtain ⟨u236, hI⟩ := hI; obtain ⟨u237, hI⟩ := hI; obtain ⟨u238, hI⟩ := hI; obtain ⟨u239, hI⟩ := hI; obtain ⟨u240, hI⟩ := hI; obtain ⟨u241, hI⟩ := hI; obtain ⟨u242, hI⟩ := hI; obtain ⟨u243, hI⟩ := hI; obtain ⟨u244, hI⟩ := hI; obtain ⟨u245, hI⟩ := hI; obtain ⟨u246, hI⟩ := hI; obtain ⟨u247, hI⟩ := hI
  obtain ⟨p, last, v, vo, l, Ly, st, steps, met, E, hst, hgo, hlp, hsb, hgk, rfl⟩ := hI
  have hll := nodup_len _ _ hst.nd hst.lt
  have hMp : M.length * p ≤ M.length * (n + 1) := Nat.mul_le_mul_left _ (by omega)
  obtain ⟨Ah, nh, ch, rfl, hnh, hnc, hcm⟩ := hst.h.form
  have hnh' : nh = l.length := by rw [hnh.out]; simp [ints]
  by_cases hl0 : l = []
  · have hn0 : nh = 0 := by rw [hnh', hl0]; rfl
    subst hn0
    refine outer_none (hst.blk.cell 3 _ rfl) (Lib.hid ?_)
    intro z9 z10 z11 z13 z14 z59 z60 z61 z62 z63 z64 z65 z66 z67 z68 z69 z70 z71 z72 z73 z74 z75 z76 z77 z78 z79 z80 z81 z82 z83 z84 z85 z86 z87 z88 z89 z90 z91 z92 z93 z94 z95 z96 z97 z98 z99 z100 z101 z102 z103 z104 z105 z106 z107 z108 z109 z110 z111 z112 z113 z114 z115 z116 z117 z118 z119 z120 z121 z122 z123 z124 z125 z126 z127 z128 z129 z130 z131 z132 z133 z134 z135 z136 z137 z138 z139 z140 z141 z142 z143 z144 z145 z146 z147 z148 z149 z150 z151 z152 z153 z154 z155 z156 z157 z158 z159 z160 z161 z162 z163 z164 z165 z166 z167 z168 z169 z170 z171 z172 z173 z174 z175 z176 z177 z178 z179 z180 z181 z182 z183 z184 z185 z186 z187 z188 z189 z190 z191 z192 z193 z194 z195 z196 z197 z198 z199 z200 z201 z202 z203 z204 z205 z206 z207 z208 z209 z210 z211 z212 z213 z214 z215 z216 z217 z218 z219 z220 z221 z222 z223 z224 z225 z226 z227 z228 z229 z230 z231 z232 z233 z234 z235 z236 z237 z238 z239 z240 z241 z242 z243 z244 z245 z246 z247 last3 hl3
    refine hQ z9 z10 z11 z13 z14 z59 z60 z61 z62 z63 z64 z65 z66 z67 z68 z69 z70 z71 z72 z73 z74 z75 z76 z77 z78 z79 z80 z81 z82 z83 z84 z85 z86 z87 z88 z89 z90 z91 z92 z93 z94 z95 z96 z97 z98 z99 z100 z101 z102 z103 z104 z105 z106 z107 z108 z109 z110 z111 z112 z113 z114 z115 z116 z117 z118 z119 z120 z121 z122 z123 z124 z125 z126 z127 z128 z129 z130 z131 z132 z133 z134 z135 z136 z137 z138 z139 z140 z141 z142 z143 z144 z145 z146 z147 z148 z149 z150 z151 z152 z153 z154 z155 z156 z157 z158 z159 z160 z161 z162 z163 z164 z165 z166 z167 z168 z169 z170 z171 z172 z173 z174 z175 z176 z177 z178 z179 z180 z181 z182 z183 z184 z185 z186 z187 z188 z189 z190 z191 z192 z193 z194 z195 z196 z197 z198 z199 z200 z201 z202 z203 z204 z205 z206 z207 z208 z209 z210 z211 z212 z213 z214 z215 z216 z217 z218 z219 z220 z221 z222 z223 z224 z225 z226 z227 z228 z229 z230 z231 z232 z233 z234 z235 z236 z237 z238 z239 z240 z241 z242 z243 z244 z245 z246 z247 p last3 w1 _ _ l Ly st steps met E hst ?_
    rw [← hgo, hl0, hl3]
    cases h : n + 1 - p with
    | zero => rfl
    | succ f => simp [fromGo]
  have hpn := hlp hl0
  have hnh0 : 0 < nh := by rw [hnh']; exact List.length_pos_iff.2 hl0
  have hfuel : n + 1 - p = (n - p) + 1 := by omega
  rw [hfuel, fromGo, if_neg hl0] at hgo
  by_cases hpl : p = n
  · refine outer_last hwf (hst.blk.cell 3 _ rfl) hnh0 (Lib.hid hst) hM (by omega) hpl (Lib.hid ?_)
    intro z9 z10 z11 z13 z14 z59 z60 z61 z62 z63 z64 z65 z66 z67 z68 z69 z70 z71 z72 z73 z74 z75 z76 z77 z78 z79 z80 z81 z82 z83 z84 z85 z86 z87 z88 z89 z90 z91 z92 z93 z94 z95 z96 z97 z98 z99 z100 z101 z102 z103 z104 z105 z106 z107 z108 z109 z110 z111 z112 z113 z114 z115 z116 z117 z118 z119 z120 z121 z122 z123 z124 z125 z126 z127 z128 z129 z130 z131 z132 z133 z134 z135 z136 z137 z138 z139 z140 z141 z142 z143 z144 z145 z146 z147 z148 z149 z150 z151 z152 z153 z154 z155 z156 z157 z158 z159 z160 z161 z162 z163 z164 z165 z166 z167 z168 z169 z170 z171 z172 z173 z174 z175 z176 z177 z178 z179 z180 z181 z182 z183 z184 z185 z186 z187 z188 z189 z190 z191 z192 z193 z194 z195 z196 z197 z198 z199 z200 z201 z202 z203 z204 z205 z206 z207 z208 z209 z210 z211 z212 z213 z214 z215 z216 z217 z218 z219 z220 z221 z222 z223 z224 z225 z226 z227 z228 z229 z230 z231 z232 z233 z234 z235 z236 z237 z238 z239 z240 z241 z242 z243 z244 z245 z246 z247 last3 w' v3 met3 steps3 hst3 hl3 hs3
    refine hQ z9 z10 z11 z13 z14 z59 z60 z61 z62 z63 z64 z65 z66 z67 z68 z69 z70 z71 z72 z73 z74 z75 z76 z77 z78 z79 z80 z81 z82 z83 z84 z85 z86 z87 z88 z89 z90 z91 z92 z93 z94 z95 z96 z97 z98 z99 z100 z101 z102 z103 z104 z105 z106 z107 z108 z109 z110 z111 z112 z113 z114 z115 z116 z117 z118 z119 z120 z121 z122 z123 z124 z125 z126 z127 z128 z129 z130 z131 z132 z133 z134 z135 z136 z137 z138 z139 z140 z141 z142 z143 z144 z145 z146 z147 z148 z149 z150 z151 z152 z153 z154 z155 z156 z157 z158 z159 z160 z161 z162 z163 z164 z165 z166 z167 z168 z169 z170 z171 z172 z173 z174 z175 z176 z177 z178 z179 z180 z181 z182 z183 z184 z185 z186 z187 z188 z189 z190 z191 z192 z193 z194 z195 z196 z197 z198 z199 z200 z201 z202 z203 z204 z205 z206 z207 z208 z209 z210 z211 z212 z213 z214 z215 z216 z217 z218 z219 z220 z221 z222 z223 z224 z225 z226 z227 z228 z229 z230 z231 z232 z233 z234 z235 z236 z237 z238 z239 z240 z241 z242 z243 z244 z245 z246 z247 p last3 w' v3 _ _ _ _ steps3 met3 _ hst3 ?_
    have hnone : text[p]? = none := List.getElem?_eq_none (by omega)
    have hlen := (close_pre M n p l).length_le
    rw [← hgo, hnone, ← hnt, hl3]
    simp only
    congr 2
    omega
  · have hpt : p < text.length := by omega
    obtain ⟨gt, ot, rfl, hSg, hct⟩ := htx.byte hpt
    refine outer_round hwf (hst.blk.cell 3 _ rfl) hnh0 (Lib.hid hst) hM (by omega) rfl (by omega) hn hM0 (b := text[p]) (fun W hW => ?_) (Lib.hid ?_)
    · rw [← hct]; exact (hW.same hS).cell (p := ⟨gt, ot + p, none⟩) hSg
    intro z9 z10 z11 z13 z14 z59 z60 z61 z62 z63 z64 z65 z66 z67 z68 z69 z70 z71 z72 z73 z74 z75 z76 z77 z78 z79 z80 z81 z82 z83 z84 z85 z86 z87 z88 z89 z90 z91 z92 z93 z94 z95 z96 z97 z98 z99 z100 z101 z102 z103 z104 z105 z106 z107 z108 z109 z110 z111 z112 z113 z114 z115 z116 z117 z118 z119 z120 z121 z122 z123 z124 z125 z126 z127 z128 z129 z130 z131 z132 z133 z134 z135 z136 z137 z138 z139 z140 z141 z142 z143 z144 z145 z146 z147 z148 z149 z150 z151 z152 z153 z154 z155 z156 z157 z158 z159 z160 z161 z162 z163 z164 z165 z166 z167 z168 z169 z170 z171 z172 z173 z174 z175 z176 z177 z178 z179 z180 z181 z182 z183 z184 z185 z186 z187 z188 z189 z190 z191 z192 z193 z194 z195 z196 z197 z198 z199 z200 z201 z202 z203 z204 z205 z206 z207 z208 z209 z210 z211 z212 z213 z214 z215 z216 z217 z218 z219 z220 z221 z222 z223 z224 z225 z226 z227 z228 z229 z230 z231 z232 z233 z234 z235 z236 z237 z238 z239 z240 z241 z242 z243 z244 z245 z246 z247 last3 w' v3 vo3 Ly3 st3 met3 steps3 hst3 hl3 hs3
    refine hK _ _ ⟨gk - 1, by omega, hJ _ _ _ ?_⟩
    refine ⟨z9, z10, z11, z13, z14, z59, z60, z61, z62, z63, z64, z65, z66, z67, z68, z69, z70, z71, z72, z73, z74, z75, z76, z77, z78, z79, z80, z81, z82, z83, z84, z85, z86, z87, z88, z89, z90, z91, z92, z93, z94, z95, z96, z97, z98, z99, z100, z101, z102, z103, z104, z105, z106, z107, z108, z109, z110, z111, z112, z113, z114, z115, z116, z117, z118, z119, z120, z121, z122, z123, z124, z125, z126, z127, z128, z129, z130, z131, z132, z133, z134, z135, z136, z137, z138, z139, z140, z141, z142, z143, z144, z145, z146, z147, z148, z149, z150, z151, z152, z153, z154, z155, z156, z157, z158, z159, z160, z161, z162, z163, z164, z165, z166, z167, z168, z169, z170, z171, z172, z173, z174, z175, z176, z177, z178, z179, z180, z181, z182, z183, z184, z185, z186, z187, z188, z189, z190, z191, z192, z193, z194, z195, z196, z197, z198, z199, z200, z201, z202, z203, z204, z205, z206, z207, z208, z209, z210, z211, z212, z213, z214, z215, z216, z217, z218, z219, z220, z221, z222, z223, z224, z225, z226, z227, z228, z229, z230, z231, z232, z233, z234, z235, z236, z237, z238, z239, z240, z241, z242, z243, z244, z245, z246, z247, p + 1, last3, v3, vo3, _, Ly3, st3, steps3, met3, _, hst3, ?_, fun _ => by omega, ?_, by omega, rfl⟩
    · have hlen := (close_pre M n p l).length_le
      rw [← hgo, List.getElem?_eq_getElem hpt, ← hnt, hl3, show n + 1 - (p + 1) = n - p by omega]
      simp only
      congr 1
      omega
    · have h1 := nodup_len _ _ hst3.nd hst3.lt
      obtain ⟨h2, h3⟩ := close_lt hwf (n := n) p l hst.nd hst.lt
      have h4 := nodup_len _ _ h2 h3
      rw [Nat.mul_succ]
      omega
end
end Go.Proofs.Ytfbaaccnnogajaa
