/- Texts that lead to the claim, one behind the other: Copies of commands: the walks of CopyCmd, CopyCmds. Condition: room. -/
import Derived.Test.YtnpideapdjomgaaDoorRA47
import Derived.Test.YtnpideapdjomgaaDoorRA26
namespace Go.Proofs.YtnpideapdjomgaaDoor
open Go.RowKit Go.Shelf Go.ChangeShapes Go.WideShapes Go.Deep

/-- In the midst of copying a command: k lists of five are copied. -/
structure CpS (w W : World) (Z : Array Value) (c : Cm) (s0 : CmS) (X : Array Value) (s : CmS) (k : Nat) : Prop where
  x : CmX X c s
  st : CloneSt w W X Z
  a : 1 ≤ k → Beh Rep.nd w W s.A1 s.c1 c.a.re
  a0 : k ≤ 0 → s.A1 = s0.A1 ∧ s.c1 = s0.c1
  b : 2 ≤ k → Beh Rep.nd w W s.A2 s.c2 c.b.re
  b0 : k ≤ 1 → s.A2 = s0.A2 ∧ s.c2 = s0.c2
  t : 3 ≤ k → Beh Rep.byte w W s.A3 s.c3 c.text
  t0 : k ≤ 2 → s.A3 = s0.A3 ∧ s.c3 = s0.c3
  r : 4 ≤ k → Beh Rep.nd w W s.A4 s.c4 c.re
  r0 : k ≤ 3 → s.A4 = s0.A4 ∧ s.c4 = s0.c4
  f : 5 ≤ k → Beh Rep.piece w W s.A5 s.c5 c.fill
  f0 : k ≤ 4 → s.A5 = s0.A5 ∧ s.c5 = s0.c5
theorem CpS.far {w W W' : World} {Z : Array Value} {c : Cm} {s0 : CmS} {X : Array Value} {s : CmS} {k : Nat} (h : CpS w W Z c s0 X s k) (hb : Below W.heap.size W W') : CpS w W' Z c s0 X s k :=
  ⟨h.x, h.st.far hb, fun hk => (h.a hk).far hb, h.a0, fun hk => (h.b hk).far hb, h.b0, fun hk => (h.t hk).far hb, h.t0, fun hk => (h.r hk).far hb, h.r0, fun hk => (h.f hk).far hb, h.f0⟩
theorem CmX.putA {X : Array Value} {c : Cm} {s : CmS} (h : CmX X c s) (A : Option Addr) (k : Nat) : CmX (((X.setIfInBounds 0 (.int .i8 c.a.kind)).setIfInBounds 1 (.int .i64 c.a.n)).setIfInBounds 2 (.slice A c.a.re.length k)) c { s with A1 := A, c1 := k } := ⟨by rw [Array.toList_setIfInBounds, Array.toList_setIfInBounds, Array.toList_setIfInBounds, h.list]; rfl, h.wf⟩
theorem CmX.putB {X : Array Value} {c : Cm} {s : CmS} (h : CmX X c s) (A : Option Addr) (k : Nat) : CmX (((X.setIfInBounds 3 (.int .i8 c.b.kind)).setIfInBounds 4 (.int .i64 c.b.n)).setIfInBounds 5 (.slice A c.b.re.length k)) c { s with A2 := A, c2 := k } := ⟨by rw [Array.toList_setIfInBounds, Array.toList_setIfInBounds, Array.toList_setIfInBounds, h.list]; rfl, h.wf⟩
theorem CpS.step1 {w W : World} {Z : Array Value} {c : Cm} {s0 : CmS} {X : Array Value} {s : CmS} (h : CpS w W Z c s0 X s 0) {A : Option Addr} {q : Nat} (hb : Beh Rep.nd w W A q c.a.re) : ∃ X', CpS w (((W.setCell ⟨w.heap.size, 0, none⟩ (.int .i8 c.a.kind)).setCell ⟨w.heap.size, 1, none⟩ (.int .i64 c.a.n)).setCell ⟨w.heap.size, 2, none⟩ (.slice A c.a.re.length q)) Z c s0 X' { s with A1 := A, c1 := q } 1 := by
  exact ⟨_, h.x.putA A q, (((h.st).set 0 _).set 1 _).set 2 _, fun _ => (((hb).set (h.st) 0 _).set ((h.st).set 0 _) 1 _).set (((h.st).set 0 _).set 1 _) 2 _, fun hk => by omega, fun hk => by omega, fun _ => h.b0 (by omega), fun hk => by omega, fun _ => h.t0 (by omega), fun hk => by omega, fun _ => h.r0 (by omega), fun hk => by omega, fun _ => h.f0 (by omega)⟩
theorem CpS.step2 {w W : World} {Z : Array Value} {c : Cm} {s0 : CmS} {X : Array Value} {s : CmS} (h : CpS w W Z c s0 X s 1) {A : Option Addr} {q : Nat} (hb : Beh Rep.nd w W A q c.b.re) : ∃ X', CpS w (((W.setCell ⟨w.heap.size, 3, none⟩ (.int .i8 c.b.kind)).setCell ⟨w.heap.size, 4, none⟩ (.int .i64 c.b.n)).setCell ⟨w.heap.size, 5, none⟩ (.slice A c.b.re.length q)) Z c s0 X' { s with A2 := A, c2 := q } 2 := by
  exact ⟨_, h.x.putB A q, (((h.st).set 3 _).set 4 _).set 5 _, fun _ => (((h.a (by omega)).set (h.st) 3 _).set ((h.st).set 3 _) 4 _).set (((h.st).set 3 _).set 4 _) 5 _, fun hk => by omega, fun _ => (((hb).set (h.st) 3 _).set ((h.st).set 3 _) 4 _).set (((h.st).set 3 _).set 4 _) 5 _, fun hk => by omega, fun hk => by omega, fun _ => h.t0 (by omega), fun hk => by omega, fun _ => h.r0 (by omega), fun hk => by omega, fun _ => h.f0 (by omega)⟩
theorem CpS.step3 {w W : World} {Z : Array Value} {c : Cm} {s0 : CmS} {X : Array Value} {s : CmS} (h : CpS w W Z c s0 X s 2) {A : Option Addr} {q : Nat} (hb : Beh Rep.byte w W A q c.text) : ∃ X', CpS w (W.setCell ⟨w.heap.size, 9, none⟩ (.slice A c.text.length q)) Z c s0 X' { s with A3 := A, c3 := q } 3 := by
  exact ⟨_, h.x.put3 A q, (h.st).set 9 _, fun _ => (h.a (by omega)).set (h.st) 9 _, fun hk => by omega, fun _ => (h.b (by omega)).set (h.st) 9 _, fun hk => by omega, fun _ => (hb).set (h.st) 9 _, fun hk => by omega, fun hk => by omega, fun _ => h.r0 (by omega), fun hk => by omega, fun _ => h.f0 (by omega)⟩
theorem CpS.step4 {w W : World} {Z : Array Value} {c : Cm} {s0 : CmS} {X : Array Value} {s : CmS} (h : CpS w W Z c s0 X s 3) {A : Option Addr} {q : Nat} (hb : Beh Rep.nd w W A q c.re) : ∃ X', CpS w (W.setCell ⟨w.heap.size, 10, none⟩ (.slice A c.re.length q)) Z c s0 X' { s with A4 := A, c4 := q } 4 := by
  exact ⟨_, h.x.put4 A q, (h.st).set 10 _, fun _ => (h.a (by omega)).set (h.st) 10 _, fun hk => by omega, fun _ => (h.b (by omega)).set (h.st) 10 _, fun hk => by omega, fun _ => (h.t (by omega)).set (h.st) 10 _, fun hk => by omega, fun _ => (hb).set (h.st) 10 _, fun hk => by omega, fun hk => by omega, fun _ => h.f0 (by omega)⟩
theorem CpS.step5 {w W : World} {Z : Array Value} {c : Cm} {s0 : CmS} {X : Array Value} {s : CmS} (h : CpS w W Z c s0 X s 4) {A : Option Addr} {q : Nat} (hb : Beh Rep.piece w W A q c.fill) : ∃ X', CpS w (W.setCell ⟨w.heap.size, 11, none⟩ (.slice A c.fill.length q)) Z c s0 X' { s with A5 := A, c5 := q } 5 := by
  exact ⟨_, h.x.put5 A q, (h.st).set 11 _, fun _ => (h.a (by omega)).set (h.st) 11 _, fun hk => by omega, fun _ => (h.b (by omega)).set (h.st) 11 _, fun hk => by omega, fun _ => (h.t (by omega)).set (h.st) 11 _, fun hk => by omega, fun _ => (h.r (by omega)).set (h.st) 11 _, fun hk => by omega, fun _ => (hb).set (h.st) 11 _, fun hk => by omega⟩
set_option maxRecDepth 100000 in
theorem copyCm_result (tmps : Array Value) (w' : World) (G : Nat) {X : Array Value} {c : Cm} {s : CmS} {t : TypeId} (h : w'.heap[G]? = some (.cells X t (0, 0))) (hX : CmX X c s) (h2 : tmps.getD 2 undef = .pointer (some ⟨G, 0, none⟩)) :
    (results Tryd.f26 tmps).run Tryd.prog w' = .ok (.agg X) w' := by
  have hl := run_loadVar_mid (P := Tryd.prog) w' G 0 44 X.toList (.struct (Tryd.prog.fieldsOf 44)) (cm_range h) (by kernel_rfl) rfl (by rw [Array.length_toList, hX.size]; kernel_rfl)
  rw [Array.toArray_toList] at hl
  unfold results
  rw [Tryd.results26]
  simp only [List.mapM_toArray, List.mapM_cons, List.mapM_nil, h2, asAddr, Sem.run_bind, Sem.run_pure, pure_bind, Functor.map]
  have key : Sem.run Tryd.prog (do let x ← loadVar 44 ⟨G, 0, none⟩; pure [x]) w' = .ok [.agg X] w' := by rw [Sem.run_bind, hl]; rfl
  have key2 : Sem.run Tryd.prog ((do let x ← loadVar 44 ⟨G, 0, none⟩; pure [x]) >>= fun l => pure l.toArray) w' = .ok #[.agg X] w' := by rw [Sem.run_bind, key]; rfl
  refine (congrArg (fun r : Result (Array Value) => r.andThen fun a w' => Result.ok (if h : a.size = 1 then a[0] else Value.tuple a) w') key2).trans ?_
  rfl
set_option maxRecDepth 100000 in
set_option maxHeartbeats 8000000 in
theorem copyCmd_any {X : Array Value} {c : Cm} {s : CmS} {w : World} {S : Blocks} (hX : Hid (CmX X c s)) (hL : Hid (CmL w S c s)) (hS : Hid (∀ b, S b → b < w.heap.size)) (hR : Hid c.room) :
    Calls Tryd.prog 26 #[.agg X] w fun e w' => ∃ X' s', e = .returned (.agg X') ∧ CmX X' c s' ∧ CmL w' (fun b => w.heap.size ≤ b ∧ b < w'.heap.size) c s' ∧ Below w.heap.size w w' := by
  obtain ⟨Z, hZ⟩ : ∃ Z, Z = zcells.toArray := ⟨_, rfl⟩
  have HZ := Lib.hid hZ
  have HZS : Hid (Z.size = 272) := Lib.hid (by rw [hZ, List.size_toArray]; exact zcells_len)
  obtain ⟨w1, hw1⟩ : ∃ w1, w1 = (w.alloc (.cells X 44)).alloc (.cells Z 44) := ⟨_, rfl⟩
  have HW1 := Lib.hid hw1
  have H1 : Hid (CpS w w1 Z c s X s 0) := Lib.hid (by
    rw [hw1]
    refine ⟨hX.out, ⟨Below.alloc (Below.alloc (Below.refl _ _) (Nat.le_refl _) _) (by simp) _, by simp, ?_, ?_⟩, fun h => by omega, fun _ => ⟨rfl, rfl⟩, fun h => by omega, fun _ => ⟨rfl, rfl⟩, fun h => by omega, fun _ => ⟨rfl, rfl⟩, fun h => by omega, fun _ => ⟨rfl, rfl⟩, fun h => by omega, fun _ => ⟨rfl, rfl⟩⟩
    · rw [Below.heap_alloc _ _ _ (by simp)]; exact heap_alloc_new _ _
    · have := heap_alloc_new (w.alloc (.cells X 44)) (.cells Z 44)
      simpa using this)
  have HKL : Hid (∀ W, Below w.heap.size w W → CmL W S c s ∧ ∀ b, S b → b < W.heap.size) := Lib.hid fun W hW => ⟨hL.out.keep (fun _ h => h) (Same.of_below hW hS.out), fun b hb => Nat.lt_of_lt_of_le (hS.out b hb) hW.size⟩
  clear hw1 hZ
  go_enter Tryd.func26, Tryd.ntmps26
  go_upto_region 1 with (refine wpList_alloc_cm rfl rfl Z HZ.out ?_; rw [← HW1.out])
  obtain ⟨X1, hX1⟩ : ∃ Y, Y = X := ⟨_, rfl⟩
  have H1' : Hid (CpS w w1 Z c s X1 s 0) := Lib.hid (by rw [hX1]; exact H1.out)
  clear hX1 H1
  obtain ⟨eA1, eC1⟩ := H1'.out.a0 (by omega)
  have x0 : w1.cell? ⟨w.heap.size, 0, none⟩ = some (.int .i8 c.a.kind) := by have := cm_cell H1'.out.st.row H1'.out.x (k := 0) (by omega); rw [this]; show some _ = _; rfl
  have x1 : w1.cell? ⟨w.heap.size, 1, none⟩ = some (.int .i64 c.a.n) := by have := cm_cell H1'.out.st.row H1'.out.x (k := 1) (by omega); rw [this]; show some _ = _; rfl
  have x2 : w1.cell? ⟨w.heap.size, 2, none⟩ = some (.slice s.A1 c.a.re.length s.c1) := by have := cm_cell H1'.out.st.row H1'.out.x (k := 2) (by omega); rw [this]; show some _ = _; rw [eA1, eC1]
  have HC1 : Hid (Calls Tryd.prog 41 #[.agg #[.int .i8 c.a.kind, .int .i64 c.a.n, .slice s.A1 c.a.re.length s.c1]] w1 fun e w' => ∃ A' c', e = .returned (.agg #[.int .i8 c.a.kind, .int .i64 c.a.n, .slice A' c.a.re.length c']) ∧ Beh Rep.nd w w' A' c' c.a.re ∧ Below w1.heap.size w1 w') := Lib.hid (by
    obtain ⟨hl, hs⟩ := HKL.out w1 H1'.out.st.b
    refine (copyAddr_any _ _ _ _ _ c.a.re w1 S (Lib.hid rfl) (Lib.hid hl.a) (Lib.hid hs) hR.out.a).mono ?_
    rintro e w' ⟨A', c', rfl, h2, h3⟩
    exact ⟨A', c', rfl, h2.up fun b hb => ⟨by have := H1'.out.st.two; have := hb.1; omega, hb.2⟩, h3⟩)
  go_upto_region 2 with (go_at_call 41; refine HC1.out.mono ?_; rintro _ v1 ⟨A1', c1', rfl, ho1, hb1⟩; have HO1 := Lib.hid ho1; have HQ1 := Lib.hid (H1'.out.far hb1); have y0 : v1.cell? ⟨w.heap.size, 0, none⟩ = some (.int .i8 c.a.kind) := (World.cell?_of_block (hb1.block w.heap.size (by have := H1'.out.st.two; omega))).trans x0; have f0 := HQ1.out.st.free 0; have y1 : v1.cell? ⟨w.heap.size, 1, none⟩ = some (.int .i64 c.a.n) := (World.cell?_of_block (hb1.block w.heap.size (by have := H1'.out.st.two; omega))).trans x1; have f1 := HQ1.out.st.free 1; have y2 : v1.cell? ⟨w.heap.size, 2, none⟩ = some (.slice s.A1 c.a.re.length s.c1) := (World.cell?_of_block (hb1.block w.heap.size (by have := H1'.out.st.two; omega))).trans x2; have f2 := HQ1.out.st.free 2; clear ho1 hb1)
  obtain ⟨u1, hu1⟩ : ∃ W, W = (((v1.setCell ⟨w.heap.size, 0, none⟩ (.int .i8 c.a.kind)).setCell ⟨w.heap.size, 1, none⟩ (.int .i64 c.a.n)).setCell ⟨w.heap.size, 2, none⟩ (.slice A1' c.a.re.length c1')) := ⟨_, rfl⟩
  rw [← hu1]
  obtain ⟨X2, hq1⟩ := HQ1.out.step1 HO1.out
  rw [← hu1] at hq1
  have H2' := Lib.hid hq1
  clear hu1 hq1 HQ1 HO1 HC1 eA1 eC1 x0 y0 f0 x1 y1 f1 x2 y2 f2 H1'
  obtain ⟨eA2, eC2⟩ := H2'.out.b0 (by omega)
  have x3 : u1.cell? ⟨w.heap.size, 3, none⟩ = some (.int .i8 c.b.kind) := by have := cm_cell H2'.out.st.row H2'.out.x (k := 3) (by omega); rw [this]; show some _ = _; rfl
  have x4 : u1.cell? ⟨w.heap.size, 4, none⟩ = some (.int .i64 c.b.n) := by have := cm_cell H2'.out.st.row H2'.out.x (k := 4) (by omega); rw [this]; show some _ = _; rfl
  have x5 : u1.cell? ⟨w.heap.size, 5, none⟩ = some (.slice s.A2 c.b.re.length s.c2) := by have := cm_cell H2'.out.st.row H2'.out.x (k := 5) (by omega); rw [this]; show some _ = _; rw [eA2, eC2]
  have HC2 : Hid (Calls Tryd.prog 41 #[.agg #[.int .i8 c.b.kind, .int .i64 c.b.n, .slice s.A2 c.b.re.length s.c2]] u1 fun e w' => ∃ A' c', e = .returned (.agg #[.int .i8 c.b.kind, .int .i64 c.b.n, .slice A' c.b.re.length c']) ∧ Beh Rep.nd w w' A' c' c.b.re ∧ Below u1.heap.size u1 w') := Lib.hid (by
    obtain ⟨hl, hs⟩ := HKL.out u1 H2'.out.st.b
    refine (copyAddr_any _ _ _ _ _ c.b.re u1 S (Lib.hid rfl) (Lib.hid hl.b) (Lib.hid hs) hR.out.b).mono ?_
    rintro e w' ⟨A', c', rfl, h2, h3⟩
    exact ⟨A', c', rfl, h2.up fun b hb => ⟨by have := H2'.out.st.two; have := hb.1; omega, hb.2⟩, h3⟩)
  go_upto_region 3 with (go_at_call 41; refine HC2.out.mono ?_; rintro _ v2 ⟨A2', c2', rfl, ho2, hb2⟩; have HO2 := Lib.hid ho2; have HQ2 := Lib.hid (H2'.out.far hb2); have y3 : v2.cell? ⟨w.heap.size, 3, none⟩ = some (.int .i8 c.b.kind) := (World.cell?_of_block (hb2.block w.heap.size (by have := H2'.out.st.two; omega))).trans x3; have f3 := HQ2.out.st.free 3; have y4 : v2.cell? ⟨w.heap.size, 4, none⟩ = some (.int .i64 c.b.n) := (World.cell?_of_block (hb2.block w.heap.size (by have := H2'.out.st.two; omega))).trans x4; have f4 := HQ2.out.st.free 4; have y5 : v2.cell? ⟨w.heap.size, 5, none⟩ = some (.slice s.A2 c.b.re.length s.c2) := (World.cell?_of_block (hb2.block w.heap.size (by have := H2'.out.st.two; omega))).trans x5; have f5 := HQ2.out.st.free 5; clear ho2 hb2)
  obtain ⟨u2, hu2⟩ : ∃ W, W = (((v2.setCell ⟨w.heap.size, 3, none⟩ (.int .i8 c.b.kind)).setCell ⟨w.heap.size, 4, none⟩ (.int .i64 c.b.n)).setCell ⟨w.heap.size, 5, none⟩ (.slice A2' c.b.re.length c2')) := ⟨_, rfl⟩
  rw [← hu2]
  obtain ⟨X3, hq2⟩ := HQ2.out.step2 HO2.out
  rw [← hu2] at hq2
  have H3' := Lib.hid hq2
  clear hu2 hq2 HQ2 HO2 HC2 eA2 eC2 x3 y3 f3 x4 y4 f4 x5 y5 f5 H2'
  obtain ⟨eA3, eC3⟩ := H3'.out.t0 (by omega)
  have x9 : u2.cell? ⟨w.heap.size, 9, none⟩ = some (.slice s.A3 c.text.length s.c3) := by have := cm_cell H3'.out.st.row H3'.out.x (k := 9) (by omega); rw [this]; show some _ = _; rw [eA3, eC3]
  have HC3 : Hid (Calls Tryd.prog 42 #[.slice s.A3 c.text.length s.c3] u2 fun e w' => ∃ A' c', e = .returned (.slice A' c.text.length c') ∧ Beh Rep.byte w w' A' c' c.text ∧ Below u2.heap.size u2 w') := Lib.hid (by
    obtain ⟨hl, hs⟩ := HKL.out u2 H3'.out.st.b
    refine (copyBytes _ _ _ c.text u2 S rfl hl.text (by have := hR.out.text; omega)).mono ?_
    rintro e w' ⟨v, rfl, ho, h3⟩
    obtain ⟨A', n', c', rfl, hn', -, -, h2⟩ := ho.read
    have e : n' = c.text.length := hn'.out
    subst e
    exact ⟨A', c', rfl, h2.up fun b hb => ⟨by have := H3'.out.st.two; have := hb.1; omega, hb.2⟩, h3⟩)
  go_upto_region 4 with (go_at_call 42; refine HC3.out.mono ?_; rintro _ v3 ⟨A3', c3', rfl, ho3, hb3⟩; have HO3 := Lib.hid ho3; have HQ3 := Lib.hid (H3'.out.far hb3); have y9 : v3.cell? ⟨w.heap.size, 9, none⟩ = some (.slice s.A3 c.text.length s.c3) := (World.cell?_of_block (hb3.block w.heap.size (by have := H3'.out.st.two; omega))).trans x9; have f9 := HQ3.out.st.free 9; clear ho3 hb3)
  obtain ⟨u3, hu3⟩ : ∃ W, W = (v3.setCell ⟨w.heap.size, 9, none⟩ (.slice A3' c.text.length c3')) := ⟨_, rfl⟩
  rw [← hu3]
  obtain ⟨X4, hq3⟩ := HQ3.out.step3 HO3.out
  rw [← hu3] at hq3
  have H4' := Lib.hid hq3
  clear hu3 hq3 HQ3 HO3 HC3 eA3 eC3 x9 y9 f9 H3'
  obtain ⟨eA4, eC4⟩ := H4'.out.r0 (by omega)
  have x10 : u3.cell? ⟨w.heap.size, 10, none⟩ = some (.slice s.A4 c.re.length s.c4) := by have := cm_cell H4'.out.st.row H4'.out.x (k := 10) (by omega); rw [this]; show some _ = _; rw [eA4, eC4]
  have HC4 : Hid (Calls Tryd.prog 43 #[.slice s.A4 c.re.length s.c4] u3 fun e w' => ∃ A' c', e = .returned (.slice A' c.re.length c') ∧ Beh Rep.nd w w' A' c' c.re ∧ Below u3.heap.size u3 w') := Lib.hid (by
    obtain ⟨hl, hs⟩ := HKL.out u3 H4'.out.st.b
    refine (copyNodes_any _ _ _ c.re u3 S (Lib.hid rfl) (Lib.hid hl.re) hR.out.re).mono ?_
    rintro e w' ⟨A', c', rfl, ho, h3⟩
    obtain ⟨A'', n', c'', e, -, -, -, h2⟩ := ho.read
    simp only [Value.slice.injEq] at e
    obtain ⟨rfl, -, rfl⟩ := e
    exact ⟨A', c', rfl, h2.up fun b hb => ⟨by have := H4'.out.st.two; have := hb.1; omega, hb.2⟩, h3⟩)
  go_upto_region 5 with (go_at_call 43; refine HC4.out.mono ?_; rintro _ v4 ⟨A4', c4', rfl, ho4, hb4⟩; have HO4 := Lib.hid ho4; have HQ4 := Lib.hid (H4'.out.far hb4); have y10 : v4.cell? ⟨w.heap.size, 10, none⟩ = some (.slice s.A4 c.re.length s.c4) := (World.cell?_of_block (hb4.block w.heap.size (by have := H4'.out.st.two; omega))).trans x10; have f10 := HQ4.out.st.free 10; clear ho4 hb4)
  obtain ⟨u4, hu4⟩ : ∃ W, W = (v4.setCell ⟨w.heap.size, 10, none⟩ (.slice A4' c.re.length c4')) := ⟨_, rfl⟩
  rw [← hu4]
  obtain ⟨X5, hq4⟩ := HQ4.out.step4 HO4.out
  rw [← hu4] at hq4
  have H5' := Lib.hid hq4
  clear hu4 hq4 HQ4 HO4 HC4 eA4 eC4 x10 y10 f10 H4'
  obtain ⟨eA5, eC5⟩ := H5'.out.f0 (by omega)
  have x11 : u4.cell? ⟨w.heap.size, 11, none⟩ = some (.slice s.A5 c.fill.length s.c5) := by have := cm_cell H5'.out.st.row H5'.out.x (k := 11) (by omega); rw [this]; show some _ = _; rw [eA5, eC5]
  have HC5 : Hid (Calls Tryd.prog 44 #[.slice s.A5 c.fill.length s.c5] u4 fun e w' => ∃ A' c', e = .returned (.slice A' c.fill.length c') ∧ Beh Rep.piece w w' A' c' c.fill ∧ Below u4.heap.size u4 w') := Lib.hid (by
    obtain ⟨hl, hs⟩ := HKL.out u4 H5'.out.st.b
    refine (copyPieces_any _ _ _ c.fill u4 S (Lib.hid rfl) (Lib.hid hl.fill) (Lib.hid hs) hR.out.fill (Lib.hid hR.out.pieces)).mono ?_
    rintro e w' ⟨A', c', rfl, h2, h3⟩
    exact ⟨A', c', rfl, h2.up fun b hb => ⟨by have := H5'.out.st.two; have := hb.1; omega, hb.2⟩, h3⟩)
  go_upto_region 6 with (go_at_call 44; refine HC5.out.mono ?_; rintro _ v5 ⟨A5', c5', rfl, ho5, hb5⟩; have HO5 := Lib.hid ho5; have HQ5 := Lib.hid (H5'.out.far hb5); have y11 : v5.cell? ⟨w.heap.size, 11, none⟩ = some (.slice s.A5 c.fill.length s.c5) := (World.cell?_of_block (hb5.block w.heap.size (by have := H5'.out.st.two; omega))).trans x11; have f11 := HQ5.out.st.free 11; clear ho5 hb5)
  obtain ⟨u5, hu5⟩ : ∃ W, W = (v5.setCell ⟨w.heap.size, 11, none⟩ (.slice A5' c.fill.length c5')) := ⟨_, rfl⟩
  rw [← hu5]
  obtain ⟨X6, hq5⟩ := HQ5.out.step5 HO5.out
  rw [← hu5] at hq5
  have H6' := Lib.hid hq5
  clear hu5 hq5 HQ5 HO5 HC5 eA5 eC5 x11 y11 f11 H5'
  go_wp2_with (first
    | (refine wpList_load_cm H6'.out.st.row H6'.out.x (.tmp 1) rfl rfl rfl ?_)
    | (refine wpList_store_cm rfl (.tmp 2) (.tmp 23) rfl (w.heap.size + 1) _ rfl rfl H6'.out.x 44 Z H6'.out.st.out HZS.out ?_))
  refine bodyPost_ret (v := .agg X6) (copyCm_result _ _ (w.heap.size + 1) (setRow_heap _ _ _ _ _ _ H6'.out.st.out) H6'.out.x rfl) rfl ⟨X6, rfl, _, H6'.out.x, ?_, ?_⟩
  · exact ⟨((H6'.out.a (by omega)).row _).cml, ((H6'.out.b (by omega)).row _).cml, ((H6'.out.t (by omega)).row _).cml, ((H6'.out.r (by omega)).row _).cml, ((H6'.out.f (by omega)).row _).cml⟩
  · exact below_setRow H6'.out.st.b (Nat.le_succ _) _
end Go.Proofs.YtnpideapdjomgaaDoor
