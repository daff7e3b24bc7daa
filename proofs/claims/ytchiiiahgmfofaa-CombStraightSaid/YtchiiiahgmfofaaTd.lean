/- Typed functions of this seat, each with the proof that the code computes it; by program (tg.py). -/
import Derived.Test.YtchiiiahgmfofaaCode
import Derived.Test.YtchiiiahgmfofaaVr
import Derived.KernelRfl
namespace Go.Proofs.Ytchiiiahgmfofaa
open Go Go.Vv Go.Proofs
set_option linter.unusedSimpArgs false
set_option linter.unusedVariables false
set_option maxRecDepth 100000
set_option maxHeartbeats 4000000
def e_i64 (x : Int) : List AV := [.int .i64 x]
instance : EncOK 1 e_i64 := ⟨fun _ => rfl, fun _ => by simp [e_i64]⟩
structure api_Cell where
  X : Int
  Y : Int
def e_api_Cell (x : api_Cell) : List AV := [.int .i64 x.X, .int .i64 x.Y]
instance : EncOK 2 e_api_Cell := ⟨fun _ => rfl, fun _ => by simp [e_api_Cell]⟩

/-! additivelaw34.cells -/
theorem c20_L0_u (Γ : Env) (ps : List Nat) (σ : St) : EC Γ ps 0 c20_L0 σ = EC Γ ps 0 (.seq (.seq (.reg false c20_4) (.cond (.t 14) .skip (.seq (.trim []) (.exit 0)))) (.seq (.blk 1 (.seq (.reg true c20_5) (.cond (.t 25) (.seq (.reg false c20_6) (.seq (.trim [4]) .ret)) .skip))) (.reg false c20_7))) σ := rfl
def t_additivelaw34_cells_L0 (k0 : (FS api_Cell)) (k1 : (FS api_Cell)) (s : Int) : Option (LR Int (Bool ⊕ Unit)) := match s with
 | s0 => (if (ilt s0 (flen k0)) = true then (match fget k0 s0 with
 | none => none
 | some v5 => (match fget k1 s0 with
 | none => none
 | some v8 => (if (bnot (band (ieq v5.X v8.X) (band (ieq v5.Y v8.Y) true))) = true then some (.dn (.inl false))
 else some (.nx (iadd .i64 s0 1)))))
 else some (.dn (.inr ())))
def t_additivelaw34_cells_L0_st (k0 : (FS api_Cell)) (k1 : (FS api_Cell)) (s : Int) : St := match s with
 | s0 => ⟨fr [(0, encF e_api_Cell k0), (1, encF e_api_Cell k1), (5, .int .i64 s0)], hl []⟩
def t_additivelaw34_cells_L0_out (k0 : (FS api_Cell)) (k1 : (FS api_Cell)) (x : (Bool ⊕ Unit)) : LE × St := match x with
 | .inl x => (.ret, ⟨fr [(4, .bool x)], hl []⟩)
 | .inr x => (.exit 0, ⟨fr [], hl []⟩)
theorem t_additivelaw34_cells_L0_ok {k0 : (FS api_Cell)} {k1 : (FS api_Cell)} {s : Int} {r : (Bool ⊕ Unit)} (h : loopT (t_additivelaw34_cells_L0 k0 k1) bigN s = some r) : LK env [] 0 [0, 1, 5] c20_L0 (some (t_additivelaw34_cells_L0_st k0 k1 s)) = some (t_additivelaw34_cells_L0_out k0 k1 r) := loop_walk (st := t_additivelaw34_cells_L0_st k0 k1) (out := t_additivelaw34_cells_L0_out k0 k1) (by
  clear h s r
  rintro s0 x h
  simp only [t_additivelaw34_cells_L0] at h
  by_cases c2 : (ilt s0 (flen k0)) = true
  · rw [if_pos c2] at h
    cases h4 : fget k0 s0 with
    | none => (rw [h4] at h; cases h)
    | some v5 =>
      simp only [h4] at h
      have f3 := iaddr_F (e := e_api_Cell) h4
      cases h7 : fget k1 s0 with
      | none => (rw [h7] at h; cases h)
      | some v8 =>
        simp only [h7] at h
        have f6 := iaddr_F (e := e_api_Cell) h7
        by_cases c9 : (bnot (band (ieq v5.X v8.X) (band (ieq v5.Y v8.Y) true))) = true
        · rw [if_pos c9] at h
          cases h
          show LK env [] 0 [0, 1, 5] c20_L0 (some (t_additivelaw34_cells_L0_st k0 k1 _)) = some (t_additivelaw34_cells_L0_out k0 k1 _)
          simp only [t_additivelaw34_cells_L0_st, t_additivelaw34_cells_L0_out]
          rw [LK_step]
          rcases tof (ieq v5.X v8.X) with a12 | a12
          · rcases tof (ieq v5.Y v8.Y) with a13 | a13
            · simp [c2, a12, a13] at c9
            · simp (maxSteps := 4000000) [c2, a12, a13, f3, f6, e_api_Cell, e_i64, ↓c20_L0_u, c20_0, c20_1, c20_2, c20_3, c20_4, c20_5, c20_6, c20_7, c20_9]
          · simp (maxSteps := 4000000) [c2, a12, f3, f6, e_api_Cell, e_i64, ↓c20_L0_u, c20_0, c20_1, c20_2, c20_3, c20_4, c20_5, c20_6, c20_7, c20_9]
        · rw [if_neg c9] at h
          rw [Bool.not_eq_true] at c9
          cases h
          show LK env [] 0 [0, 1, 5] c20_L0 (some (t_additivelaw34_cells_L0_st k0 k1 _)) = LK env [] 0 [0, 1, 5] c20_L0 (some (t_additivelaw34_cells_L0_st k0 k1 _))
          simp only [t_additivelaw34_cells_L0_st]
          rw [LK_step]
          rcases tof (ieq v5.X v8.X) with a10 | a10
          · rcases tof (ieq v5.Y v8.Y) with a11 | a11
            · simp (maxSteps := 4000000) [c2, a10, a11, f3, f6, e_api_Cell, e_i64, ↓c20_L0_u, c20_0, c20_1, c20_2, c20_3, c20_4, c20_5, c20_6, c20_7, c20_9]
            · simp [c2, a10, a11] at c9
          · simp [c2, a10] at c9
  · rw [if_neg c2] at h
    rw [Bool.not_eq_true] at c2
    cases h
    show LK env [] 0 [0, 1, 5] c20_L0 (some (t_additivelaw34_cells_L0_st k0 k1 _)) = some (t_additivelaw34_cells_L0_out k0 k1 _)
    simp only [t_additivelaw34_cells_L0_st, t_additivelaw34_cells_L0_out]
    rw [LK_step]
    simp (maxSteps := 4000000) [c2, e_api_Cell, e_i64, ↓c20_L0_u, c20_0, c20_1, c20_2, c20_3, c20_4, c20_5, c20_6, c20_7, c20_9]) bigN s r h
def t_additivelaw34_cells (p0 : (FS api_Cell)) (p1 : (FS api_Cell)) : Option Bool := (if (ine (flen p0) (flen p1)) = true then some false
 else (match loopT (t_additivelaw34_cells_L0 p0 p1) bigN 0 with
 | none => none
 | some v15 => (match v15 with
 | .inl v15x => some v15x
 | .inr v15x => some true)))
theorem t_additivelaw34_cells_ok {p0 : (FS api_Cell)} {p1 : (FS api_Cell)} {r : Bool} (h : t_additivelaw34_cells p0 p1 = some r) : FC env 20 [encF e_api_Cell p0, encF e_api_Cell p1] none = some (.bool r, fun _ => none) := by
  unfold t_additivelaw34_cells at h
  by_cases c1 : (ine (flen p0) (flen p1)) = true
  · rw [if_pos c1] at h
    cases h
    refine FC_pure (lf := lf20) rfl rfl rfl ?_
    simp only [lf20, lc20, c20_0, c20_1, c20_2, c20_3, c20_4, c20_5, c20_6, c20_7, c20_9]
    simp (maxSteps := 4000000) [c1, e_api_Cell, e_i64, ↓c20_L0_u]
  · rw [if_neg c1] at h
    rw [Bool.not_eq_true] at c1
    cases h14 : loopT (t_additivelaw34_cells_L0 p0 p1) bigN 0 with
    | none => (rw [h14] at h; cases h)
    | some v15 =>
      simp only [h14] at h
      have f16 := t_additivelaw34_cells_L0_ok h14
      cases v15 with
      | inl v15x =>
        simp only [t_additivelaw34_cells_L0_st, t_additivelaw34_cells_L0_out] at h f16
        cases h
        refine FC_pure (lf := lf20) rfl rfl rfl ?_
        simp only [lf20, lc20, c20_0, c20_1, c20_2, c20_3, c20_4, c20_5, c20_6, c20_7, c20_9]
        simp (maxSteps := 4000000) [c1, f16, e_api_Cell, e_i64, ↓c20_L0_u]
      | inr v15x =>
        simp only [t_additivelaw34_cells_L0_st, t_additivelaw34_cells_L0_out] at h f16
        cases h
        refine FC_pure (lf := lf20) rfl rfl rfl ?_
        simp only [lf20, lc20, c20_0, c20_1, c20_2, c20_3, c20_4, c20_5, c20_6, c20_7, c20_9]
        simp (maxSteps := 4000000) [c1, f16, e_api_Cell, e_i64, ↓c20_L0_u]

/-! additivelaw34.step -/
def u_additivelaw34_step (p0 : api_Cell) (p1 : api_Cell) : Bool := (ieq (iadd .i64 (imul .i64 (isub .i64 p0.X p1.X) (isub .i64 p0.X p1.X)) (imul .i64 (isub .i64 p0.Y p1.Y) (isub .i64 p0.Y p1.Y))) 1)
def t_additivelaw34_step (p0 : api_Cell) (p1 : api_Cell) : Option Bool := some (u_additivelaw34_step p0 p1)
theorem u_additivelaw34_step_ok (p0 : api_Cell) (p1 : api_Cell) : FC env 28 [.agg [.int .i64 p0.X, .int .i64 p0.Y], .agg [.int .i64 p1.X, .int .i64 p1.Y]] none = some (.bool (u_additivelaw34_step p0 p1), fun _ => none) := by
  unfold u_additivelaw34_step
  refine FC_pure (lf := lf28) rfl rfl rfl ?_
  simp only [lf28, lc28, c28_0, c28_1, c28_2]
  simp (maxSteps := 4000000) [e_api_Cell, e_i64]
theorem t_additivelaw34_step_ok {p0 : api_Cell} {p1 : api_Cell} {r : Bool} (h : t_additivelaw34_step p0 p1 = some r) : FC env 28 [.agg [.int .i64 p0.X, .int .i64 p0.Y], .agg [.int .i64 p1.X, .int .i64 p1.Y]] none = some (.bool r, fun _ => none) := by
  cases h
  exact u_additivelaw34_step_ok _ _

/-! comb.ok -/
def u_comb_ok (p0 : api_Cell) : Bool := (band (band (band (ige p0.X (-4096)) (ilt p0.X 4096)) (ige p0.Y (-4096))) (ilt p0.Y 4096))
def t_comb_ok (p0 : api_Cell) : Option Bool := some (u_comb_ok p0)
theorem u_comb_ok_ok (p0 : api_Cell) : FC env 51 [.agg [.int .i64 p0.X, .int .i64 p0.Y]] none = some (.bool (u_comb_ok p0), fun _ => none) := by
  unfold u_comb_ok
  refine FC_pure (lf := lf51) rfl rfl rfl ?_
  simp only [lf51, lc51, c51_0, c51_1]
  rcases tof (ige p0.X (-4096)) with a1 | a1
  · rcases tof (ilt p0.X 4096) with a2 | a2
    · rcases tof (ige p0.Y (-4096)) with a3 | a3
      · simp (maxSteps := 4000000) [a1, a2, a3, e_api_Cell, e_i64]
      · simp (maxSteps := 4000000) [a1, a2, a3, e_api_Cell, e_i64]
    · simp (maxSteps := 4000000) [a1, a2, e_api_Cell, e_i64]
  · simp (maxSteps := 4000000) [a1, e_api_Cell, e_i64]
theorem t_comb_ok_ok {p0 : api_Cell} {r : Bool} (h : t_comb_ok p0 = some r) : FC env 51 [.agg [.int .i64 p0.X, .int .i64 p0.Y]] none = some (.bool r, fun _ => none) := by
  cases h
  exact u_comb_ok_ok _

/-! additiveref34.inRange -/
def u_additiveref34_inRange (p0 : api_Cell) : Bool := (band (band (band (ige p0.X (-4096)) (ilt p0.X 4096)) (ige p0.Y (-4096))) (ilt p0.Y 4096))
def t_additiveref34_inRange (p0 : api_Cell) : Option Bool := some (u_additiveref34_inRange p0)
theorem u_additiveref34_inRange_ok (p0 : api_Cell) : FC env 52 [.agg [.int .i64 p0.X, .int .i64 p0.Y]] none = some (.bool (u_additiveref34_inRange p0), fun _ => none) := by
  unfold u_additiveref34_inRange
  refine FC_pure (lf := lf52) rfl rfl rfl ?_
  simp only [lf52, lc52, c52_0, c52_1]
  rcases tof (ige p0.X (-4096)) with a1 | a1
  · rcases tof (ilt p0.X 4096) with a2 | a2
    · rcases tof (ige p0.Y (-4096)) with a3 | a3
      · simp (maxSteps := 4000000) [a1, a2, a3, e_api_Cell, e_i64]
      · simp (maxSteps := 4000000) [a1, a2, a3, e_api_Cell, e_i64]
    · simp (maxSteps := 4000000) [a1, a2, e_api_Cell, e_i64]
  · simp (maxSteps := 4000000) [a1, e_api_Cell, e_i64]
theorem t_additiveref34_inRange_ok {p0 : api_Cell} {r : Bool} (h : t_additiveref34_inRange p0 = some r) : FC env 52 [.agg [.int .i64 p0.X, .int .i64 p0.Y]] none = some (.bool r, fun _ => none) := by
  cases h
  exact u_additiveref34_inRange_ok _

/-! additiveref34.toward -/
def t_additiveref34_toward (p0 : Int) (p1 : Int) : Option Int := (if (ilt p0 p1) = true then some (iadd .i64 p0 1)
 else some (isub .i64 p0 1))
theorem t_additiveref34_toward_ok {p0 : Int} {p1 : Int} {r : Int} (h : t_additiveref34_toward p0 p1 = some r) : FC env 53 [.int .i64 p0, .int .i64 p1] none = some (.int .i64 r, fun _ => none) := by
  unfold t_additiveref34_toward at h
  by_cases c1 : (ilt p0 p1) = true
  · rw [if_pos c1] at h
    cases h
    refine FC_pure (lf := lf53) rfl rfl rfl ?_
    simp only [lf53, lc53, c53_0, c53_1, c53_2, c53_3]
    simp (maxSteps := 4000000) [c1, e_api_Cell, e_i64]
  · rw [if_neg c1] at h
    rw [Bool.not_eq_true] at c1
    cases h
    refine FC_pure (lf := lf53) rfl rfl rfl ?_
    simp only [lf53, lc53, c53_0, c53_1, c53_2, c53_3]
    simp (maxSteps := 4000000) [c1, e_api_Cell, e_i64]

/-! comb.step -/
def u_comb_step (p0 : api_Cell) (p1 : api_Cell) : api_Cell := (⟨(isub .i64 p1.X p0.X), (isub .i64 p1.Y p0.Y)⟩ : api_Cell)
def t_comb_step (p0 : api_Cell) (p1 : api_Cell) : Option api_Cell := some (u_comb_step p0 p1)
theorem u_comb_step_ok (p0 : api_Cell) (p1 : api_Cell) : FC env 61 [.agg [.int .i64 p0.X, .int .i64 p0.Y], .agg [.int .i64 p1.X, .int .i64 p1.Y]] none = some (.agg [.int .i64 (((u_comb_step p0 p1)).X), .int .i64 (((u_comb_step p0 p1)).Y)], fun _ => none) := by
  unfold u_comb_step
  refine FC_pure (lf := lf61) rfl rfl rfl ?_
  simp only [lf61, lc61, c61_0, c61_1]
  simp (maxSteps := 4000000) [e_api_Cell, e_i64]
theorem t_comb_step_ok {p0 : api_Cell} {p1 : api_Cell} {r : api_Cell} (h : t_comb_step p0 p1 = some r) : FC env 61 [.agg [.int .i64 p0.X, .int .i64 p0.Y], .agg [.int .i64 p1.X, .int .i64 p1.Y]] none = some (.agg [.int .i64 r.X, .int .i64 r.Y], fun _ => none) := by
  cases h
  exact u_comb_step_ok _ _

/-! additiveref34.neighbor -/
def u_additiveref34_neighbor (p0 : api_Cell) (p1 : api_Cell) : Bool := (ieq (iadd .i64 (imul .i64 (isub .i64 p0.X p1.X) (isub .i64 p0.X p1.X)) (imul .i64 (isub .i64 p0.Y p1.Y) (isub .i64 p0.Y p1.Y))) 1)
def t_additiveref34_neighbor (p0 : api_Cell) (p1 : api_Cell) : Option Bool := some (u_additiveref34_neighbor p0 p1)
theorem u_additiveref34_neighbor_ok (p0 : api_Cell) (p1 : api_Cell) : FC env 62 [.agg [.int .i64 p0.X, .int .i64 p0.Y], .agg [.int .i64 p1.X, .int .i64 p1.Y]] none = some (.bool (u_additiveref34_neighbor p0 p1), fun _ => none) := by
  unfold u_additiveref34_neighbor
  refine FC_pure (lf := lf62) rfl rfl rfl ?_
  simp only [lf62, lc62, c62_0, c62_1, c62_2]
  simp (maxSteps := 4000000) [e_api_Cell, e_i64]
theorem t_additiveref34_neighbor_ok {p0 : api_Cell} {p1 : api_Cell} {r : Bool} (h : t_additiveref34_neighbor p0 p1 = some r) : FC env 62 [.agg [.int .i64 p0.X, .int .i64 p0.Y], .agg [.int .i64 p1.X, .int .i64 p1.Y]] none = some (.bool r, fun _ => none) := by
  cases h
  exact u_additiveref34_neighbor_ok _ _

/-! comb.Straight -/
theorem c23_L0_u (Γ : Env) (ps : List Nat) (σ : St) : EC Γ ps 0 c23_L0 σ = EC Γ ps 0 (.seq (.seq (.reg false c23_4) (.cond (.t 18) .skip (.seq (.trim [5]) (.exit 0)))) (.blk 1 (.seq (.blk 2 (.seq (.reg false c23_5) (.cond (.t 23) (.reg false c23_6) (.seq (.reg false c23_7) (.cond (.t 33) (.reg false c23_8) (.seq (.reg false c23_9) (.cond (.t 43) (.reg false c23_10) (.reg false c23_11)))))))) (.reg false c23_12)))) σ := rfl
def t_comb_Straight_L0 (k0 : api_Cell) (s : (api_Cell × (List api_Cell))) : Option (LR (api_Cell × (List api_Cell)) (List api_Cell)) := match s with
 | (s0, s1) => (if (bnot (band (ieq s0.X k0.X) (band (ieq s0.Y k0.Y) true))) = true then (if (ilt s0.X k0.X) = true then (if fits 16 (olen s1 + 1) = true then some (.nx ((⟨(iadd .i64 s0.X 1), s0.Y⟩ : api_Cell), (osnoc s1 (⟨(iadd .i64 s0.X 1), s0.Y⟩ : api_Cell)))) else none)
 else (if (igt s0.X k0.X) = true then (if fits 16 (olen s1 + 1) = true then some (.nx ((⟨(isub .i64 s0.X 1), s0.Y⟩ : api_Cell), (osnoc s1 (⟨(isub .i64 s0.X 1), s0.Y⟩ : api_Cell)))) else none)
 else (if (ilt s0.Y k0.Y) = true then (if fits 16 (olen s1 + 1) = true then some (.nx ((⟨s0.X, (iadd .i64 s0.Y 1)⟩ : api_Cell), (osnoc s1 (⟨s0.X, (iadd .i64 s0.Y 1)⟩ : api_Cell)))) else none)
 else (if fits 16 (olen s1 + 1) = true then some (.nx ((⟨s0.X, (isub .i64 s0.Y 1)⟩ : api_Cell), (osnoc s1 (⟨s0.X, (isub .i64 s0.Y 1)⟩ : api_Cell)))) else none))))
 else some (.dn s1))
def t_comb_Straight_L0_st (k0 : api_Cell) (s : (api_Cell × (List api_Cell))) : St := match s with
 | (s0, s1) => ⟨fr [(2, .ptr 2 0 0), (3, .ptr 3 0 0), (5, .arr 5 0 0 s1.length)], hl [(2, .box 0 [.int .i64 s0.X, .int .i64 s0.Y]), (3, .box 0 [.int .i64 k0.X, .int .i64 k0.Y]), (5, .arr 0 2 26 (cellsE e_api_Cell s1) false)]⟩
def t_comb_Straight_L0_out (k0 : api_Cell) (x : (List api_Cell)) : LE × St := (.exit 0, ⟨fr [(5, .arr 5 0 0 x.length)], hl [(5, .arr 0 2 26 (cellsE e_api_Cell x) false)]⟩)
theorem t_comb_Straight_L0_ok {k0 : api_Cell} {s : (api_Cell × (List api_Cell))} {r : (List api_Cell)} (h : loopT (t_comb_Straight_L0 k0) bigN s = some r) : LK env [] 0 [2, 3, 5] c23_L0 (some (t_comb_Straight_L0_st k0 s)) = some (t_comb_Straight_L0_out k0 r) := loop_walk (st := t_comb_Straight_L0_st k0) (out := t_comb_Straight_L0_out k0) (by
  clear h s r
  rintro ⟨s0, s1⟩ x h
  simp only [t_comb_Straight_L0] at h
  by_cases c7 : (bnot (band (ieq s0.X k0.X) (band (ieq s0.Y k0.Y) true))) = true
  · rw [if_pos c7] at h
    by_cases c8 : (ilt s0.X k0.X) = true
    · rw [if_pos c8] at h
      by_cases h9 : fits 16 (olen s1 + 1) = true
      · rw [if_pos h9] at h
        have f10 := fun g0 H y => @app_one _ _ e_api_Cell _ s1 (⟨(iadd .i64 s0.X 1), s0.Y⟩ : api_Cell) 16 h9 (by decide) g0 H 5 0 26 y
        simp only [e_api_Cell] at f10
        cases h
        show LK env [] 0 [2, 3, 5] c23_L0 (some (t_comb_Straight_L0_st k0 _)) = LK env [] 0 [2, 3, 5] c23_L0 (some (t_comb_Straight_L0_st k0 _))
        simp only [t_comb_Straight_L0_st]
        rw [LK_step]
        rcases tof (ieq s0.X k0.X) with a11 | a11
        · rcases tof (ieq s0.Y k0.Y) with a12 | a12
          · simp [a11, a12] at c7
          · simp (maxSteps := 4000000) [a11, a12, c8, f10, e_api_Cell, e_i64, ↓c23_L0_u, c23_0, c23_1, c23_2, c23_3, c23_4, c23_5, c23_6, c23_7, c23_8, c23_9, c23_10, c23_11, c23_12, c23_14]
        · simp (maxSteps := 4000000) [a11, c8, f10, e_api_Cell, e_i64, ↓c23_L0_u, c23_0, c23_1, c23_2, c23_3, c23_4, c23_5, c23_6, c23_7, c23_8, c23_9, c23_10, c23_11, c23_12, c23_14]
      · rw [if_neg h9] at h; cases h
    · rw [if_neg c8] at h
      rw [Bool.not_eq_true] at c8
      by_cases c13 : (igt s0.X k0.X) = true
      · rw [if_pos c13] at h
        by_cases h14 : fits 16 (olen s1 + 1) = true
        · rw [if_pos h14] at h
          have f15 := fun g0 H y => @app_one _ _ e_api_Cell _ s1 (⟨(isub .i64 s0.X 1), s0.Y⟩ : api_Cell) 16 h14 (by decide) g0 H 5 0 26 y
          simp only [e_api_Cell] at f15
          cases h
          show LK env [] 0 [2, 3, 5] c23_L0 (some (t_comb_Straight_L0_st k0 _)) = LK env [] 0 [2, 3, 5] c23_L0 (some (t_comb_Straight_L0_st k0 _))
          simp only [t_comb_Straight_L0_st]
          rw [LK_step]
          rcases tof (ieq s0.X k0.X) with a16 | a16
          · rcases tof (ieq s0.Y k0.Y) with a17 | a17
            · simp [a16, a17] at c7
            · simp (maxSteps := 4000000) [a16, a17, c8, c13, f15, e_api_Cell, e_i64, ↓c23_L0_u, c23_0, c23_1, c23_2, c23_3, c23_4, c23_5, c23_6, c23_7, c23_8, c23_9, c23_10, c23_11, c23_12, c23_14]
          · simp (maxSteps := 4000000) [a16, c8, c13, f15, e_api_Cell, e_i64, ↓c23_L0_u, c23_0, c23_1, c23_2, c23_3, c23_4, c23_5, c23_6, c23_7, c23_8, c23_9, c23_10, c23_11, c23_12, c23_14]
        · rw [if_neg h14] at h; cases h
      · rw [if_neg c13] at h
        rw [Bool.not_eq_true] at c13
        by_cases c18 : (ilt s0.Y k0.Y) = true
        · rw [if_pos c18] at h
          by_cases h19 : fits 16 (olen s1 + 1) = true
          · rw [if_pos h19] at h
            have f20 := fun g0 H y => @app_one _ _ e_api_Cell _ s1 (⟨s0.X, (iadd .i64 s0.Y 1)⟩ : api_Cell) 16 h19 (by decide) g0 H 5 0 26 y
            simp only [e_api_Cell] at f20
            cases h
            show LK env [] 0 [2, 3, 5] c23_L0 (some (t_comb_Straight_L0_st k0 _)) = LK env [] 0 [2, 3, 5] c23_L0 (some (t_comb_Straight_L0_st k0 _))
            simp only [t_comb_Straight_L0_st]
            rw [LK_step]
            rcases tof (ieq s0.X k0.X) with a21 | a21
            · rcases tof (ieq s0.Y k0.Y) with a22 | a22
              · simp [a21, a22] at c7
              · simp (maxSteps := 4000000) [a21, a22, c8, c13, c18, f20, e_api_Cell, e_i64, ↓c23_L0_u, c23_0, c23_1, c23_2, c23_3, c23_4, c23_5, c23_6, c23_7, c23_8, c23_9, c23_10, c23_11, c23_12, c23_14]
            · simp (maxSteps := 4000000) [a21, c8, c13, c18, f20, e_api_Cell, e_i64, ↓c23_L0_u, c23_0, c23_1, c23_2, c23_3, c23_4, c23_5, c23_6, c23_7, c23_8, c23_9, c23_10, c23_11, c23_12, c23_14]
          · rw [if_neg h19] at h; cases h
        · rw [if_neg c18] at h
          rw [Bool.not_eq_true] at c18
          by_cases h23 : fits 16 (olen s1 + 1) = true
          · rw [if_pos h23] at h
            have f24 := fun g0 H y => @app_one _ _ e_api_Cell _ s1 (⟨s0.X, (isub .i64 s0.Y 1)⟩ : api_Cell) 16 h23 (by decide) g0 H 5 0 26 y
            simp only [e_api_Cell] at f24
            cases h
            show LK env [] 0 [2, 3, 5] c23_L0 (some (t_comb_Straight_L0_st k0 _)) = LK env [] 0 [2, 3, 5] c23_L0 (some (t_comb_Straight_L0_st k0 _))
            simp only [t_comb_Straight_L0_st]
            rw [LK_step]
            rcases tof (ieq s0.X k0.X) with a25 | a25
            · rcases tof (ieq s0.Y k0.Y) with a26 | a26
              · simp [a25, a26] at c7
              · simp (maxSteps := 4000000) [a25, a26, c8, c13, c18, f24, e_api_Cell, e_i64, ↓c23_L0_u, c23_0, c23_1, c23_2, c23_3, c23_4, c23_5, c23_6, c23_7, c23_8, c23_9, c23_10, c23_11, c23_12, c23_14]
            · simp (maxSteps := 4000000) [a25, c8, c13, c18, f24, e_api_Cell, e_i64, ↓c23_L0_u, c23_0, c23_1, c23_2, c23_3, c23_4, c23_5, c23_6, c23_7, c23_8, c23_9, c23_10, c23_11, c23_12, c23_14]
          · rw [if_neg h23] at h; cases h
  · rw [if_neg c7] at h
    rw [Bool.not_eq_true] at c7
    cases h
    show LK env [] 0 [2, 3, 5] c23_L0 (some (t_comb_Straight_L0_st k0 _)) = some (t_comb_Straight_L0_out k0 _)
    simp only [t_comb_Straight_L0_st, t_comb_Straight_L0_out]
    rw [LK_step]
    rcases tof (ieq s0.X k0.X) with a27 | a27
    · rcases tof (ieq s0.Y k0.Y) with a28 | a28
      · simp (maxSteps := 4000000) [a27, a28, e_api_Cell, e_i64, ↓c23_L0_u, c23_0, c23_1, c23_2, c23_3, c23_4, c23_5, c23_6, c23_7, c23_8, c23_9, c23_10, c23_11, c23_12, c23_14]
      · simp [a27, a28] at c7
    · simp [a27] at c7) bigN s r h
def t_comb_Straight (p0 : api_Cell) (p1 : api_Cell) : Option (FS api_Cell) := (if (bor (bnot (u_comb_ok p0)) (bnot (u_comb_ok p1))) = true then some (FS.nil : (FS api_Cell))
 else (match loopT (t_comb_Straight_L0 p1) bigN (p0, (olit ([p0] : List api_Cell))) with
 | none => none
 | some v30 => some (FS.lst v30)))
theorem t_comb_Straight_ok {p0 : api_Cell} {p1 : api_Cell} {r : (FS api_Cell)} (h : t_comb_Straight p0 p1 = some r) : FC env 23 [.agg [.int .i64 p0.X, .int .i64 p0.Y], .agg [.int .i64 p1.X, .int .i64 p1.Y]] none = some (encF e_api_Cell r, fun _ => none) := by
  unfold t_comb_Straight at h
  have f1 := u_comb_ok_ok p0
  have f2 := u_comb_ok_ok p1
  by_cases c3 : (bor (bnot (u_comb_ok p0)) (bnot (u_comb_ok p1))) = true
  · rw [if_pos c3] at h
    cases h
    refine FC_pure (lf := lf23) rfl rfl rfl ?_
    simp only [lf23, lc23, c23_0, c23_1, c23_2, c23_3, c23_4, c23_5, c23_6, c23_7, c23_8, c23_9, c23_10, c23_11, c23_12, c23_14]
    rcases tof (u_comb_ok p0) with a4 | a4
    · rcases tof (u_comb_ok p1) with a5 | a5
      · simp [a4, a5] at c3
      · simp (maxSteps := 4000000) [a4, a5, f1, f2, e_api_Cell, e_i64, ↓c23_L0_u]
    · simp (maxSteps := 4000000) [a4, f1, f2, e_api_Cell, e_i64, ↓c23_L0_u]
  · rw [if_neg c3] at h
    rw [Bool.not_eq_true] at c3
    have f6 : ∀ (H : Heap) (g0 : Nat), bslV H g0 1 2 26 (some [.int .i64 p0.X, .int .i64 p0.Y]) = some (.arr g0 (newVer H g0) 0 (olit ([p0] : List api_Cell)).length, upd H g0 (some (.arr (newVer H g0) 2 26 (cellsE e_api_Cell (olit ([p0] : List api_Cell))) false))) := fun H g0 => rfl
    cases h29 : loopT (t_comb_Straight_L0 p1) bigN (p0, (olit ([p0] : List api_Cell))) with
    | none => (rw [h29] at h; cases h)
    | some v30 =>
      simp only [h29] at h
      have f31 := t_comb_Straight_L0_ok h29
      simp only [t_comb_Straight_L0_st, t_comb_Straight_L0_out] at f31
      cases h
      refine FC_pure (lf := lf23) rfl rfl rfl ?_
      simp only [lf23, lc23, c23_0, c23_1, c23_2, c23_3, c23_4, c23_5, c23_6, c23_7, c23_8, c23_9, c23_10, c23_11, c23_12, c23_14]
      rcases tof (u_comb_ok p0) with a32 | a32
      · rcases tof (u_comb_ok p1) with a33 | a33
        · simp (maxSteps := 4000000) [a32, a33, f1, f2, f6, -bslV_1, f31, e_api_Cell, e_i64, ↓c23_L0_u, snap_arrD (e := e_api_Cell) (el := 26) (fz := false)]
        · simp [a32, a33] at c3
      · simp [a32] at c3

/-! additiveref34.Straight -/
theorem c24_L0_u (Γ : Env) (ps : List Nat) (σ : St) : EC Γ ps 0 c24_L0 σ = EC Γ ps 0 (.seq (.seq (.reg false c24_5) (.cond (.t 23) .skip (.seq (.trim [2, 3, 5]) (.exit 0)))) (.blk 1 (.seq (.reg false c24_6) (.reg false c24_7)))) σ := rfl
theorem c24_L1_u (Γ : Env) (ps : List Nat) (σ : St) : EC Γ ps 0 c24_L1 σ = EC Γ ps 0 (.seq (.seq (.reg false c24_9) (.cond (.t 38) .skip (.seq (.trim [5]) (.exit 2)))) (.blk 3 (.seq (.reg false c24_10) (.reg false c24_11)))) σ := rfl
def t_additiveref34_Straight_L0 (k0 : api_Cell) (s : (api_Cell × (List api_Cell))) : Option (LR (api_Cell × (List api_Cell)) (api_Cell × (List api_Cell))) := match s with
 | (s0, s1) => (if (ine s0.X k0.X) = true then (match t_additiveref34_toward s0.X k0.X with
 | none => none
 | some v11 => (if fits 16 (olen s1 + 1) = true then some (.nx ((⟨v11, s0.Y⟩ : api_Cell), (osnoc s1 (⟨v11, s0.Y⟩ : api_Cell)))) else none))
 else some (.dn (s0, s1)))
def t_additiveref34_Straight_L0_st (k0 : api_Cell) (s : (api_Cell × (List api_Cell))) : St := match s with
 | (s0, s1) => ⟨fr [(2, .ptr 2 0 0), (3, .ptr 3 0 0), (5, .arr 5 0 0 s1.length)], hl [(2, .box 0 [.int .i64 s0.X, .int .i64 s0.Y]), (3, .box 0 [.int .i64 k0.X, .int .i64 k0.Y]), (5, .arr 0 2 26 (cellsE e_api_Cell s1) false)]⟩
def t_additiveref34_Straight_L0_out (k0 : api_Cell) (x : (api_Cell × (List api_Cell))) : LE × St := (.exit 0, ⟨fr [(2, .ptr 2 0 0), (3, .ptr 3 0 0), (5, .arr 5 0 0 x.2.length)], hl [(2, .box 0 [.int .i64 x.1.X, .int .i64 x.1.Y]), (3, .box 0 [.int .i64 k0.X, .int .i64 k0.Y]), (5, .arr 0 2 26 (cellsE e_api_Cell x.2) false)]⟩)
theorem t_additiveref34_Straight_L0_ok {k0 : api_Cell} {s : (api_Cell × (List api_Cell))} {r : (api_Cell × (List api_Cell))} (h : loopT (t_additiveref34_Straight_L0 k0) bigN s = some r) : LK env [] 0 [2, 3, 5] c24_L0 (some (t_additiveref34_Straight_L0_st k0 s)) = some (t_additiveref34_Straight_L0_out k0 r) := loop_walk (st := t_additiveref34_Straight_L0_st k0) (out := t_additiveref34_Straight_L0_out k0) (by
  clear h s r
  rintro ⟨s0, s1⟩ x h
  simp only [t_additiveref34_Straight_L0] at h
  by_cases c8 : (ine s0.X k0.X) = true
  · rw [if_pos c8] at h
    cases h10 : t_additiveref34_toward s0.X k0.X with
    | none => (rw [h10] at h; cases h)
    | some v11 =>
      simp only [h10] at h
      have f9 := t_additiveref34_toward_ok h10
      by_cases h12 : fits 16 (olen s1 + 1) = true
      · rw [if_pos h12] at h
        have f13 := fun g0 H y => @app_one _ _ e_api_Cell _ s1 (⟨v11, s0.Y⟩ : api_Cell) 16 h12 (by decide) g0 H 5 0 26 y
        simp only [e_api_Cell] at f13
        cases h
        show LK env [] 0 [2, 3, 5] c24_L0 (some (t_additiveref34_Straight_L0_st k0 _)) = LK env [] 0 [2, 3, 5] c24_L0 (some (t_additiveref34_Straight_L0_st k0 _))
        simp only [t_additiveref34_Straight_L0_st]
        rw [LK_step]
        simp (maxSteps := 4000000) [c8, f9, f13, e_api_Cell, e_i64, ↓c24_L0_u, ↓c24_L1_u, c24_0, c24_1, c24_2, c24_3, c24_4, c24_5, c24_6, c24_7, c24_9, c24_10, c24_11, c24_13]
      · rw [if_neg h12] at h; cases h
  · rw [if_neg c8] at h
    rw [Bool.not_eq_true] at c8
    cases h
    show LK env [] 0 [2, 3, 5] c24_L0 (some (t_additiveref34_Straight_L0_st k0 _)) = some (t_additiveref34_Straight_L0_out k0 _)
    simp only [t_additiveref34_Straight_L0_st, t_additiveref34_Straight_L0_out]
    rw [LK_step]
    simp (maxSteps := 4000000) [c8, e_api_Cell, e_i64, ↓c24_L0_u, ↓c24_L1_u, c24_0, c24_1, c24_2, c24_3, c24_4, c24_5, c24_6, c24_7, c24_9, c24_10, c24_11, c24_13]) bigN s r h
def t_additiveref34_Straight_L1 (k0 : api_Cell) (s : (api_Cell × (List api_Cell))) : Option (LR (api_Cell × (List api_Cell)) (List api_Cell)) := match s with
 | (s0, s1) => (if (ine s0.Y k0.Y) = true then (match t_additiveref34_toward s0.Y k0.Y with
 | none => none
 | some v20 => (if fits 16 (olen s1 + 1) = true then some (.nx ((⟨s0.X, v20⟩ : api_Cell), (osnoc s1 (⟨s0.X, v20⟩ : api_Cell)))) else none))
 else some (.dn s1))
def t_additiveref34_Straight_L1_st (k0 : api_Cell) (s : (api_Cell × (List api_Cell))) : St := match s with
 | (s0, s1) => ⟨fr [(2, .ptr 2 0 0), (3, .ptr 3 0 0), (5, .arr 5 0 0 s1.length)], hl [(2, .box 0 [.int .i64 s0.X, .int .i64 s0.Y]), (3, .box 0 [.int .i64 k0.X, .int .i64 k0.Y]), (5, .arr 0 2 26 (cellsE e_api_Cell s1) false)]⟩
def t_additiveref34_Straight_L1_out (k0 : api_Cell) (x : (List api_Cell)) : LE × St := (.exit 2, ⟨fr [(5, .arr 5 0 0 x.length)], hl [(5, .arr 0 2 26 (cellsE e_api_Cell x) false)]⟩)
theorem t_additiveref34_Straight_L1_ok {k0 : api_Cell} {s : (api_Cell × (List api_Cell))} {r : (List api_Cell)} (h : loopT (t_additiveref34_Straight_L1 k0) bigN s = some r) : LK env [] 0 [2, 3, 5] c24_L1 (some (t_additiveref34_Straight_L1_st k0 s)) = some (t_additiveref34_Straight_L1_out k0 r) := loop_walk (st := t_additiveref34_Straight_L1_st k0) (out := t_additiveref34_Straight_L1_out k0) (by
  clear h s r
  rintro ⟨s0, s1⟩ x h
  simp only [t_additiveref34_Straight_L1] at h
  by_cases c17 : (ine s0.Y k0.Y) = true
  · rw [if_pos c17] at h
    cases h19 : t_additiveref34_toward s0.Y k0.Y with
    | none => (rw [h19] at h; cases h)
    | some v20 =>
      simp only [h19] at h
      have f18 := t_additiveref34_toward_ok h19
      by_cases h21 : fits 16 (olen s1 + 1) = true
      · rw [if_pos h21] at h
        have f22 := fun g0 H y => @app_one _ _ e_api_Cell _ s1 (⟨s0.X, v20⟩ : api_Cell) 16 h21 (by decide) g0 H 5 0 26 y
        simp only [e_api_Cell] at f22
        cases h
        show LK env [] 0 [2, 3, 5] c24_L1 (some (t_additiveref34_Straight_L1_st k0 _)) = LK env [] 0 [2, 3, 5] c24_L1 (some (t_additiveref34_Straight_L1_st k0 _))
        simp only [t_additiveref34_Straight_L1_st]
        rw [LK_step]
        simp (maxSteps := 4000000) [c17, f18, f22, e_api_Cell, e_i64, ↓c24_L0_u, ↓c24_L1_u, c24_0, c24_1, c24_2, c24_3, c24_4, c24_5, c24_6, c24_7, c24_9, c24_10, c24_11, c24_13]
      · rw [if_neg h21] at h; cases h
  · rw [if_neg c17] at h
    rw [Bool.not_eq_true] at c17
    cases h
    show LK env [] 0 [2, 3, 5] c24_L1 (some (t_additiveref34_Straight_L1_st k0 _)) = some (t_additiveref34_Straight_L1_out k0 _)
    simp only [t_additiveref34_Straight_L1_st, t_additiveref34_Straight_L1_out]
    rw [LK_step]
    simp (maxSteps := 4000000) [c17, e_api_Cell, e_i64, ↓c24_L0_u, ↓c24_L1_u, c24_0, c24_1, c24_2, c24_3, c24_4, c24_5, c24_6, c24_7, c24_9, c24_10, c24_11, c24_13]) bigN s r h
def t_additiveref34_Straight (p0 : api_Cell) (p1 : api_Cell) : Option (FS api_Cell) := (if (bor (bnot (u_additiveref34_inRange p0)) (bnot (u_additiveref34_inRange p1))) = true then some (FS.nil : (FS api_Cell))
 else (if fits 16 1 = true then (match loopT (t_additiveref34_Straight_L0 p1) bigN (p0, (osnoc ([] : List api_Cell) p0)) with
 | none => none
 | some v15 => (match loopT (t_additiveref34_Straight_L1 p1) bigN (v15.1, v15.2) with
 | none => none
 | some v24 => some (FS.lst v24))) else none))
theorem t_additiveref34_Straight_ok {p0 : api_Cell} {p1 : api_Cell} {r : (FS api_Cell)} (h : t_additiveref34_Straight p0 p1 = some r) : FC env 24 [.agg [.int .i64 p0.X, .int .i64 p0.Y], .agg [.int .i64 p1.X, .int .i64 p1.Y]] none = some (encF e_api_Cell r, fun _ => none) := by
  unfold t_additiveref34_Straight at h
  have f1 := u_additiveref34_inRange_ok p0
  have f2 := u_additiveref34_inRange_ok p1
  by_cases c3 : (bor (bnot (u_additiveref34_inRange p0)) (bnot (u_additiveref34_inRange p1))) = true
  · rw [if_pos c3] at h
    cases h
    refine FC_pure (lf := lf24) rfl rfl rfl ?_
    simp only [lf24, lc24, c24_0, c24_1, c24_2, c24_3, c24_4, c24_5, c24_6, c24_7, c24_9, c24_10, c24_11, c24_13]
    rcases tof (u_additiveref34_inRange p0) with a4 | a4
    · rcases tof (u_additiveref34_inRange p1) with a5 | a5
      · simp [a4, a5] at c3
      · simp (maxSteps := 4000000) [a4, a5, f1, f2, e_api_Cell, e_i64, ↓c24_L0_u, ↓c24_L1_u]
    · simp (maxSteps := 4000000) [a4, f1, f2, e_api_Cell, e_i64, ↓c24_L0_u, ↓c24_L1_u]
  · rw [if_neg c3] at h
    rw [Bool.not_eq_true] at c3
    by_cases h6 : fits 16 1 = true
    · rw [if_pos h6] at h
      have f7 := fun H g0 y => @app_nil1 _ _ e_api_Cell _ p0 16 h6 (by decide) H g0 26 y
      simp only [e_api_Cell] at f7
      cases h14 : loopT (t_additiveref34_Straight_L0 p1) bigN (p0, (osnoc ([] : List api_Cell) p0)) with
      | none => (rw [h14] at h; cases h)
      | some v15 =>
        simp only [h14] at h
        have f16 := t_additiveref34_Straight_L0_ok h14
        simp only [t_additiveref34_Straight_L0_st, t_additiveref34_Straight_L0_out] at f16
        cases h23 : loopT (t_additiveref34_Straight_L1 p1) bigN (v15.1, v15.2) with
        | none => (rw [h23] at h; cases h)
        | some v24 =>
          simp only [h23] at h
          have f25 := t_additiveref34_Straight_L1_ok h23
          simp only [t_additiveref34_Straight_L1_st, t_additiveref34_Straight_L1_out] at f25
          cases h
          refine FC_pure (lf := lf24) rfl rfl rfl ?_
          simp only [lf24, lc24, c24_0, c24_1, c24_2, c24_3, c24_4, c24_5, c24_6, c24_7, c24_9, c24_10, c24_11, c24_13]
          rcases tof (u_additiveref34_inRange p0) with a26 | a26
          · rcases tof (u_additiveref34_inRange p1) with a27 | a27
            · simp (maxSteps := 4000000) [a26, a27, f1, f2, f7, f16, f25, e_api_Cell, e_i64, ↓c24_L0_u, ↓c24_L1_u, snap_arrD (e := e_api_Cell) (el := 26) (fz := false)]
            · simp [a26, a27] at c3
          · simp [a26] at c3
    · rw [if_neg h6] at h; cases h

/-! additiveref34.Turns -/
theorem c31_L0_u (Γ : Env) (ps : List Nat) (σ : St) : EC Γ ps 0 c31_L0 σ = EC Γ ps 0 (.seq (.seq (.reg false c31_2) (.cond (.t 9) .skip (.seq (.trim [0]) (.exit 0)))) (.seq (.blk 1 (.seq (.reg true c31_3) (.cond (.t 34) (.seq (.reg false c31_4) (.seq (.trim [2]) .ret)) .skip))) (.reg false c31_5))) σ := rfl
theorem c31_L1_u (Γ : Env) (ps : List Nat) (σ : St) : EC Γ ps 0 c31_L1 σ = EC Γ ps 0 (.seq (.seq (.reg false c31_9) (.cond (.t 39) .skip (.seq (.trim [4]) (.exit 2)))) (.seq (.blk 3 (.seq (.reg true c31_10) (.cond (.t 93) (.reg false c31_11) .skip))) (.reg false c31_12))) σ := rfl
def t_additiveref34_Turns_L0 (k0 : (FS api_Cell)) (s : Int) : Option (LR Int (Int ⊕ Unit)) := match s with
 | s0 => (if (ilt s0 (flen k0)) = true then (match fget k0 s0 with
 | none => none
 | some v4 => (match gOpt (band (bnot (bnot (u_additiveref34_inRange v4))) (igt s0 0)) (fget k0 (isub .i64 s0 1)) with
 | none => none
 | some v8 => (if (bor (bnot (u_additiveref34_inRange v4)) (band (igt s0 0) (bnot (u_additiveref34_neighbor (v8.getD (⟨0, 0⟩ : api_Cell)) v4)))) = true then some (.dn (.inl 0))
 else some (.nx (iadd .i64 s0 1)))))
 else some (.dn (.inr ())))
def t_additiveref34_Turns_L0_st (k0 : (FS api_Cell)) (s : Int) : St := match s with
 | s0 => ⟨fr [(0, encF e_api_Cell k0), (3, .int .i64 s0)], hl []⟩
def t_additiveref34_Turns_L0_out (k0 : (FS api_Cell)) (x : (Int ⊕ Unit)) : LE × St := match x with
 | .inl x => (.ret, ⟨fr [(2, .int .i64 x)], hl []⟩)
 | .inr x => (.exit 0, ⟨fr [(0, encF e_api_Cell k0)], hl []⟩)
theorem t_additiveref34_Turns_L0_ok {k0 : (FS api_Cell)} {s : Int} {r : (Int ⊕ Unit)} (h : loopT (t_additiveref34_Turns_L0 k0) bigN s = some r) : LK env [] 0 [0, 3] c31_L0 (some (t_additiveref34_Turns_L0_st k0 s)) = some (t_additiveref34_Turns_L0_out k0 r) := loop_walk (st := t_additiveref34_Turns_L0_st k0) (out := t_additiveref34_Turns_L0_out k0) (by
  clear h s r
  rintro s0 x h
  simp only [t_additiveref34_Turns_L0] at h
  by_cases c1 : (ilt s0 (flen k0)) = true
  · rw [if_pos c1] at h
    cases h3 : fget k0 s0 with
    | none => (rw [h3] at h; cases h)
    | some v4 =>
      simp only [h3] at h
      have f2 := iaddr_F (e := e_api_Cell) h3
      have f5 := u_additiveref34_inRange_ok v4
      cases h7 : gOpt (band (bnot (bnot (u_additiveref34_inRange v4))) (igt s0 0)) (fget k0 (isub .i64 s0 1)) with
      | none => (rw [h7] at h; cases h)
      | some v8 =>
        simp only [h7] at h
        have f6 := fun (q0 : (bnot (u_additiveref34_inRange v4)) = false) (q1 : (igt s0 0) = true) => iaddr_F (e := e_api_Cell) (gOpt_getD (⟨0, 0⟩ : api_Cell) h7 (band_mk (bnot_mk q0) q1))
        have f10 := u_additiveref34_neighbor_ok (v8.getD (⟨0, 0⟩ : api_Cell)) v4
        by_cases c11 : (bor (bnot (u_additiveref34_inRange v4)) (band (igt s0 0) (bnot (u_additiveref34_neighbor (v8.getD (⟨0, 0⟩ : api_Cell)) v4)))) = true
        · rw [if_pos c11] at h
          cases h
          show LK env [] 0 [0, 3] c31_L0 (some (t_additiveref34_Turns_L0_st k0 _)) = some (t_additiveref34_Turns_L0_out k0 _)
          simp only [t_additiveref34_Turns_L0_st, t_additiveref34_Turns_L0_out]
          rw [LK_step]
          rcases tof (u_additiveref34_inRange v4) with a15 | a15
          · rcases tof (igt s0 0) with a16 | a16
            · rcases tof (u_additiveref34_neighbor (v8.getD (⟨0, 0⟩ : api_Cell)) v4) with a17 | a17
              · simp [c1, a15, a16, a17] at c11
              · simp (maxSteps := 4000000) [c1, a15, a16, a17, f2, f5, f6, f10, e_api_Cell, e_i64, ↓c31_L0_u, ↓c31_L1_u, c31_0, c31_1, c31_2, c31_3, c31_4, c31_5, c31_7, c31_8, c31_9, c31_10, c31_11, c31_12, c31_14]
            · simp [c1, a15, a16] at c11
          · simp (maxSteps := 4000000) [c1, a15, f2, f5, f6, f10, e_api_Cell, e_i64, ↓c31_L0_u, ↓c31_L1_u, c31_0, c31_1, c31_2, c31_3, c31_4, c31_5, c31_7, c31_8, c31_9, c31_10, c31_11, c31_12, c31_14]
        · rw [if_neg c11] at h
          rw [Bool.not_eq_true] at c11
          cases h
          show LK env [] 0 [0, 3] c31_L0 (some (t_additiveref34_Turns_L0_st k0 _)) = LK env [] 0 [0, 3] c31_L0 (some (t_additiveref34_Turns_L0_st k0 _))
          simp only [t_additiveref34_Turns_L0_st]
          rw [LK_step]
          rcases tof (u_additiveref34_inRange v4) with a12 | a12
          · rcases tof (igt s0 0) with a13 | a13
            · rcases tof (u_additiveref34_neighbor (v8.getD (⟨0, 0⟩ : api_Cell)) v4) with a14 | a14
              · simp (maxSteps := 4000000) [c1, a12, a13, a14, f2, f5, f6, f10, e_api_Cell, e_i64, ↓c31_L0_u, ↓c31_L1_u, c31_0, c31_1, c31_2, c31_3, c31_4, c31_5, c31_7, c31_8, c31_9, c31_10, c31_11, c31_12, c31_14]
              · simp [c1, a12, a13, a14] at c11
            · simp (maxSteps := 4000000) [c1, a12, a13, f2, f5, f6, f10, e_api_Cell, e_i64, ↓c31_L0_u, ↓c31_L1_u, c31_0, c31_1, c31_2, c31_3, c31_4, c31_5, c31_7, c31_8, c31_9, c31_10, c31_11, c31_12, c31_14]
          · simp [c1, a12] at c11
  · rw [if_neg c1] at h
    rw [Bool.not_eq_true] at c1
    cases h
    show LK env [] 0 [0, 3] c31_L0 (some (t_additiveref34_Turns_L0_st k0 _)) = some (t_additiveref34_Turns_L0_out k0 _)
    simp only [t_additiveref34_Turns_L0_st, t_additiveref34_Turns_L0_out]
    rw [LK_step]
    simp (maxSteps := 4000000) [c1, e_api_Cell, e_i64, ↓c31_L0_u, ↓c31_L1_u, c31_0, c31_1, c31_2, c31_3, c31_4, c31_5, c31_7, c31_8, c31_9, c31_10, c31_11, c31_12, c31_14]) bigN s r h
def t_additiveref34_Turns_L1 (k0 : (FS api_Cell)) (s : (Int × Int)) : Option (LR (Int × Int) Int) := match s with
 | (s0, s1) => (if (ilt (iadd .i64 s1 1) (flen k0)) = true then (match fget k0 s1 with
 | none => none
 | some v24 => (match fget k0 (isub .i64 s1 1) with
 | none => none
 | some v27 => (match fget k0 (iadd .i64 s1 1) with
 | none => none
 | some v30 => (if (bor (ine (isub .i64 v24.X v27.X) (isub .i64 v30.X v24.X)) (ine (isub .i64 v24.Y v27.Y) (isub .i64 v30.Y v24.Y))) = true then some (.nx ((iadd .i64 s0 1), (iadd .i64 s1 1)))
 else some (.nx (s0, (iadd .i64 s1 1)))))))
 else some (.dn s0))
def t_additiveref34_Turns_L1_st (k0 : (FS api_Cell)) (s : (Int × Int)) : St := match s with
 | (s0, s1) => ⟨fr [(0, encF e_api_Cell k0), (4, .int .i64 s0), (5, .int .i64 s1)], hl []⟩
def t_additiveref34_Turns_L1_out (k0 : (FS api_Cell)) (x : Int) : LE × St := (.exit 2, ⟨fr [(4, .int .i64 x)], hl []⟩)
theorem t_additiveref34_Turns_L1_ok {k0 : (FS api_Cell)} {s : (Int × Int)} {r : Int} (h : loopT (t_additiveref34_Turns_L1 k0) bigN s = some r) : LK env [] 0 [0, 4, 5] c31_L1 (some (t_additiveref34_Turns_L1_st k0 s)) = some (t_additiveref34_Turns_L1_out k0 r) := loop_walk (st := t_additiveref34_Turns_L1_st k0) (out := t_additiveref34_Turns_L1_out k0) (by
  clear h s r
  rintro ⟨s0, s1⟩ x h
  simp only [t_additiveref34_Turns_L1] at h
  by_cases c21 : (ilt (iadd .i64 s1 1) (flen k0)) = true
  · rw [if_pos c21] at h
    cases h23 : fget k0 s1 with
    | none => (rw [h23] at h; cases h)
    | some v24 =>
      simp only [h23] at h
      have f22 := iaddr_F (e := e_api_Cell) h23
      cases h26 : fget k0 (isub .i64 s1 1) with
      | none => (rw [h26] at h; cases h)
      | some v27 =>
        simp only [h26] at h
        have f25 := iaddr_F (e := e_api_Cell) h26
        cases h29 : fget k0 (iadd .i64 s1 1) with
        | none => (rw [h29] at h; cases h)
        | some v30 =>
          simp only [h29] at h
          have f28 := iaddr_F (e := e_api_Cell) h29
          by_cases c36 : (bor (ine (isub .i64 v24.X v27.X) (isub .i64 v30.X v24.X)) (ine (isub .i64 v24.Y v27.Y) (isub .i64 v30.Y v24.Y))) = true
          · rw [if_pos c36] at h
            cases h
            show LK env [] 0 [0, 4, 5] c31_L1 (some (t_additiveref34_Turns_L1_st k0 _)) = LK env [] 0 [0, 4, 5] c31_L1 (some (t_additiveref34_Turns_L1_st k0 _))
            simp only [t_additiveref34_Turns_L1_st]
            rw [LK_step]
            rcases tof (ine (isub .i64 v24.X v27.X) (isub .i64 v30.X v24.X)) with a37 | a37
            · simp (maxSteps := 4000000) [c21, a37, f22, f25, f28, e_api_Cell, e_i64, ↓c31_L0_u, ↓c31_L1_u, c31_0, c31_1, c31_2, c31_3, c31_4, c31_5, c31_7, c31_8, c31_9, c31_10, c31_11, c31_12, c31_14]
            · rcases tof (ine (isub .i64 v24.Y v27.Y) (isub .i64 v30.Y v24.Y)) with a38 | a38
              · simp (maxSteps := 4000000) [c21, a37, a38, f22, f25, f28, e_api_Cell, e_i64, ↓c31_L0_u, ↓c31_L1_u, c31_0, c31_1, c31_2, c31_3, c31_4, c31_5, c31_7, c31_8, c31_9, c31_10, c31_11, c31_12, c31_14]
              · simp [c21, a37, a38] at c36
          · rw [if_neg c36] at h
            rw [Bool.not_eq_true] at c36
            cases h
            show LK env [] 0 [0, 4, 5] c31_L1 (some (t_additiveref34_Turns_L1_st k0 _)) = LK env [] 0 [0, 4, 5] c31_L1 (some (t_additiveref34_Turns_L1_st k0 _))
            simp only [t_additiveref34_Turns_L1_st]
            rw [LK_step]
            rcases tof (ine (isub .i64 v24.X v27.X) (isub .i64 v30.X v24.X)) with a39 | a39
            · simp [c21, a39] at c36
            · rcases tof (ine (isub .i64 v24.Y v27.Y) (isub .i64 v30.Y v24.Y)) with a40 | a40
              · simp [c21, a39, a40] at c36
              · simp (maxSteps := 4000000) [c21, a39, a40, f22, f25, f28, e_api_Cell, e_i64, ↓c31_L0_u, ↓c31_L1_u, c31_0, c31_1, c31_2, c31_3, c31_4, c31_5, c31_7, c31_8, c31_9, c31_10, c31_11, c31_12, c31_14]
  · rw [if_neg c21] at h
    rw [Bool.not_eq_true] at c21
    cases h
    show LK env [] 0 [0, 4, 5] c31_L1 (some (t_additiveref34_Turns_L1_st k0 _)) = some (t_additiveref34_Turns_L1_out k0 _)
    simp only [t_additiveref34_Turns_L1_st, t_additiveref34_Turns_L1_out]
    rw [LK_step]
    simp (maxSteps := 4000000) [c21, e_api_Cell, e_i64, ↓c31_L0_u, ↓c31_L1_u, c31_0, c31_1, c31_2, c31_3, c31_4, c31_5, c31_7, c31_8, c31_9, c31_10, c31_11, c31_12, c31_14]) bigN s r h
def t_additiveref34_Turns (p0 : (FS api_Cell)) : Option Int := (match loopT (t_additiveref34_Turns_L0 p0) bigN 0 with
 | none => none
 | some v19 => (match v19 with
 | .inl v19x => some v19x
 | .inr v19x => (match loopT (t_additiveref34_Turns_L1 p0) bigN (0, 1) with
 | none => none
 | some v42 => some v42)))
theorem t_additiveref34_Turns_ok {p0 : (FS api_Cell)} {r : Int} (h : t_additiveref34_Turns p0 = some r) : FC env 31 [encF e_api_Cell p0] none = some (.int .i64 r, fun _ => none) := by
  unfold t_additiveref34_Turns at h
  cases h18 : loopT (t_additiveref34_Turns_L0 p0) bigN 0 with
  | none => (rw [h18] at h; cases h)
  | some v19 =>
    simp only [h18] at h
    have f20 := t_additiveref34_Turns_L0_ok h18
    cases v19 with
    | inl v19x =>
      simp only [t_additiveref34_Turns_L0_st, t_additiveref34_Turns_L0_out] at h f20
      cases h
      refine FC_pure (lf := lf31) rfl rfl rfl ?_
      simp only [lf31, lc31, c31_0, c31_1, c31_2, c31_3, c31_4, c31_5, c31_7, c31_8, c31_9, c31_10, c31_11, c31_12, c31_14]
      simp (maxSteps := 4000000) [f20, e_api_Cell, e_i64, ↓c31_L0_u, ↓c31_L1_u]
    | inr v19x =>
      simp only [t_additiveref34_Turns_L0_st, t_additiveref34_Turns_L0_out] at h f20
      cases h41 : loopT (t_additiveref34_Turns_L1 p0) bigN (0, 1) with
      | none => (rw [h41] at h; cases h)
      | some v42 =>
        simp only [h41] at h
        have f43 := t_additiveref34_Turns_L1_ok h41
        simp only [t_additiveref34_Turns_L1_st, t_additiveref34_Turns_L1_out] at f43
        cases h
        refine FC_pure (lf := lf31) rfl rfl rfl ?_
        simp only [lf31, lc31, c31_0, c31_1, c31_2, c31_3, c31_4, c31_5, c31_7, c31_8, c31_9, c31_10, c31_11, c31_12, c31_14]
        simp (maxSteps := 4000000) [f20, f43, e_api_Cell, e_i64, ↓c31_L0_u, ↓c31_L1_u]

/-! comb.way -/
theorem c60_L0_u (Γ : Env) (ps : List Nat) (σ : St) : EC Γ ps 0 c60_L0 σ = EC Γ ps 0 (.seq (.reg false c60_2) (.seq (.cond (.t 9) .skip (.seq (.trim []) (.exit 0))) (.seq (.blk 1 (.seq (.reg false c60_3) (.seq (.seq (.reg false c60_4) (.cond (.t 15) (.seq (.reg false c60_5) (.seq (.trim [2]) .ret)) .skip)) (.seq (.seq (.reg false c60_6) (.cond (.t 17) (.exit 1) .skip)) (.seq (.reg true c60_7) (.seq (.reg false c60_8) (.cond (.t 36) (.seq (.reg false c60_9) (.seq (.trim [2]) .ret)) .skip))))))) (.reg false c60_10)))) σ := rfl
def t_comb_way_L0 (k0 : (FS api_Cell)) (k1 : (FS api_Cell)) (k2 : Int) (s : Int) : Option (LR Int (Bool ⊕ Unit)) := match s with
 | s0 => (if (ilt s0 k2) = true then (match fget k1 s0 with
 | none => none
 | some v4 => (if (bnot (u_comb_ok v4)) = true then some (.dn (.inl false))
 else (if (ieq s0 0) = true then some (.nx (iadd .i64 s0 1))
 else (match fget k0 (isub .i64 s0 1) with
 | none => none
 | some v11 => (if (ine (iadd .i64 (imul .i64 (((u_comb_step v11 v4)).X) (((u_comb_step v11 v4)).X)) (imul .i64 (((u_comb_step v11 v4)).Y) (((u_comb_step v11 v4)).Y))) 1) = true then some (.dn (.inl false))
 else some (.nx (iadd .i64 s0 1)))))))
 else some (.dn (.inr ())))
def t_comb_way_L0_st (k0 : (FS api_Cell)) (k1 : (FS api_Cell)) (k2 : Int) (s : Int) : St := match s with
 | s0 => ⟨fr [(0, encF e_api_Cell k0), (6, encF e_api_Cell k1), (7, .int .i64 k2), (8, .int .i64 s0)], hl []⟩
def t_comb_way_L0_out (k0 : (FS api_Cell)) (k1 : (FS api_Cell)) (k2 : Int) (x : (Bool ⊕ Unit)) : LE × St := match x with
 | .inl x => (.ret, ⟨fr [(2, .bool x)], hl []⟩)
 | .inr x => (.exit 0, ⟨fr [], hl []⟩)
theorem t_comb_way_L0_ok {k0 : (FS api_Cell)} {k1 : (FS api_Cell)} {k2 : Int} {s : Int} {r : (Bool ⊕ Unit)} (h : loopT (t_comb_way_L0 k0 k1 k2) bigN s = some r) : LK env [] 0 [0, 6, 7, 8] c60_L0 (some (t_comb_way_L0_st k0 k1 k2 s)) = some (t_comb_way_L0_out k0 k1 k2 r) := loop_walk (st := t_comb_way_L0_st k0 k1 k2) (out := t_comb_way_L0_out k0 k1 k2) (by
  clear h s r
  rintro s0 x h
  simp only [t_comb_way_L0] at h
  by_cases c1 : (ilt s0 k2) = true
  · rw [if_pos c1] at h
    cases h3 : fget k1 s0 with
    | none => (rw [h3] at h; cases h)
    | some v4 =>
      simp only [h3] at h
      have f2 := iaddr_F (e := e_api_Cell) h3
      have f5 := u_comb_ok_ok v4
      by_cases c6 : (bnot (u_comb_ok v4)) = true
      · rw [if_pos c6] at h
        cases h
        show LK env [] 0 [0, 6, 7, 8] c60_L0 (some (t_comb_way_L0_st k0 k1 k2 _)) = some (t_comb_way_L0_out k0 k1 k2 _)
        simp only [t_comb_way_L0_st, t_comb_way_L0_out]
        rw [LK_step]
        rcases tof (u_comb_ok v4) with a15 | a15
        · simp [c1, a15] at c6
        · simp (maxSteps := 4000000) [c1, a15, f2, f5, e_api_Cell, e_i64, ↓c60_L0_u, c60_0, c60_1, c60_2, c60_3, c60_4, c60_5, c60_6, c60_7, c60_8, c60_9, c60_10, c60_12]
      · rw [if_neg c6] at h
        rw [Bool.not_eq_true] at c6
        by_cases c7 : (ieq s0 0) = true
        · rw [if_pos c7] at h
          cases h
          show LK env [] 0 [0, 6, 7, 8] c60_L0 (some (t_comb_way_L0_st k0 k1 k2 _)) = LK env [] 0 [0, 6, 7, 8] c60_L0 (some (t_comb_way_L0_st k0 k1 k2 _))
          simp only [t_comb_way_L0_st]
          rw [LK_step]
          rcases tof (u_comb_ok v4) with a8 | a8
          · simp (maxSteps := 4000000) [c1, a8, c7, f2, f5, e_api_Cell, e_i64, ↓c60_L0_u, c60_0, c60_1, c60_2, c60_3, c60_4, c60_5, c60_6, c60_7, c60_8, c60_9, c60_10, c60_12]
          · simp [c1, a8] at c6
        · rw [if_neg c7] at h
          rw [Bool.not_eq_true] at c7
          cases h10 : fget k0 (isub .i64 s0 1) with
          | none => (rw [h10] at h; cases h)
          | some v11 =>
            simp only [h10] at h
            have f9 := iaddr_F (e := e_api_Cell) h10
            have f12 := u_comb_step_ok v11 v4
            by_cases c13 : (ine (iadd .i64 (imul .i64 (((u_comb_step v11 v4)).X) (((u_comb_step v11 v4)).X)) (imul .i64 (((u_comb_step v11 v4)).Y) (((u_comb_step v11 v4)).Y))) 1) = true
            · rw [if_pos c13] at h
              cases h
              show LK env [] 0 [0, 6, 7, 8] c60_L0 (some (t_comb_way_L0_st k0 k1 k2 _)) = some (t_comb_way_L0_out k0 k1 k2 _)
              simp only [t_comb_way_L0_st, t_comb_way_L0_out]
              rw [LK_step]
              rcases tof (u_comb_ok v4) with a16 | a16
              · simp (maxSteps := 4000000) [c1, a16, c7, c13, f2, f5, f9, f12, e_api_Cell, e_i64, ↓c60_L0_u, c60_0, c60_1, c60_2, c60_3, c60_4, c60_5, c60_6, c60_7, c60_8, c60_9, c60_10, c60_12]
              · simp [c1, a16] at c6
            · rw [if_neg c13] at h
              rw [Bool.not_eq_true] at c13
              cases h
              show LK env [] 0 [0, 6, 7, 8] c60_L0 (some (t_comb_way_L0_st k0 k1 k2 _)) = LK env [] 0 [0, 6, 7, 8] c60_L0 (some (t_comb_way_L0_st k0 k1 k2 _))
              simp only [t_comb_way_L0_st]
              rw [LK_step]
              rcases tof (u_comb_ok v4) with a14 | a14
              · simp (maxSteps := 4000000) [c1, a14, c7, c13, f2, f5, f9, f12, e_api_Cell, e_i64, ↓c60_L0_u, c60_0, c60_1, c60_2, c60_3, c60_4, c60_5, c60_6, c60_7, c60_8, c60_9, c60_10, c60_12]
              · simp [c1, a14] at c6
  · rw [if_neg c1] at h
    rw [Bool.not_eq_true] at c1
    cases h
    show LK env [] 0 [0, 6, 7, 8] c60_L0 (some (t_comb_way_L0_st k0 k1 k2 _)) = some (t_comb_way_L0_out k0 k1 k2 _)
    simp only [t_comb_way_L0_st, t_comb_way_L0_out]
    rw [LK_step]
    simp (maxSteps := 4000000) [c1, e_api_Cell, e_i64, ↓c60_L0_u, c60_0, c60_1, c60_2, c60_3, c60_4, c60_5, c60_6, c60_7, c60_8, c60_9, c60_10, c60_12]) bigN s r h
def t_comb_way (p0 : (FS api_Cell)) : Option Bool := (match loopT (t_comb_way_L0 p0 p0 (flen p0)) bigN 0 with
 | none => none
 | some v18 => (match v18 with
 | .inl v18x => some v18x
 | .inr v18x => some true))
theorem t_comb_way_ok {p0 : (FS api_Cell)} {r : Bool} (h : t_comb_way p0 = some r) : FC env 60 [encF e_api_Cell p0] none = some (.bool r, fun _ => none) := by
  unfold t_comb_way at h
  cases h17 : loopT (t_comb_way_L0 p0 p0 (flen p0)) bigN 0 with
  | none => (rw [h17] at h; cases h)
  | some v18 =>
    simp only [h17] at h
    have f19 := t_comb_way_L0_ok h17
    cases v18 with
    | inl v18x =>
      simp only [t_comb_way_L0_st, t_comb_way_L0_out] at h f19
      cases h
      refine FC_pure (lf := lf60) rfl rfl rfl ?_
      simp only [lf60, lc60, c60_0, c60_1, c60_2, c60_3, c60_4, c60_5, c60_6, c60_7, c60_8, c60_9, c60_10, c60_12]
      simp (maxSteps := 4000000) [f19, e_api_Cell, e_i64, ↓c60_L0_u]
    | inr v18x =>
      simp only [t_comb_way_L0_st, t_comb_way_L0_out] at h f19
      cases h
      refine FC_pure (lf := lf60) rfl rfl rfl ?_
      simp only [lf60, lc60, c60_0, c60_1, c60_2, c60_3, c60_4, c60_5, c60_6, c60_7, c60_8, c60_9, c60_10, c60_12]
      simp (maxSteps := 4000000) [f19, e_api_Cell, e_i64, ↓c60_L0_u]

/-! additivelaw34.awake -/
def u_additivelaw34_awake : Bool := true
theorem u_additivelaw34_awake_ok : FC env 17 [] none = some (.bool u_additivelaw34_awake, fun _ => none) := FC_iff.2 ⟨60, by kernel_rfl⟩

/-! comb.Turns -/
theorem c30_L0_u (Γ : Env) (ps : List Nat) (σ : St) : EC Γ ps 0 c30_L0 σ = EC Γ ps 0 (.seq (.seq (.reg false c30_5) (.cond (.t 12) .skip (.seq (.trim [3]) (.exit 0)))) (.seq (.blk 1 (.seq (.reg true c30_6) (.cond (.t 35) (.reg false c30_7) .skip))) (.reg false c30_8))) σ := rfl
def t_comb_Turns_L0 (k0 : (FS api_Cell)) (s : (Int × Int)) : Option (LR (Int × Int) Int) := match s with
 | (s0, s1) => (if (ilt (iadd .i64 s1 1) (flen k0)) = true then (match fget k0 (isub .i64 s1 1) with
 | none => none
 | some v9 => (match fget k0 s1 with
 | none => none
 | some v12 => (match fget k0 (iadd .i64 s1 1) with
 | none => none
 | some v17 => (if (bnot (band (ieq (((u_comb_step v9 v12)).X) (((u_comb_step v12 v17)).X)) (band (ieq (((u_comb_step v9 v12)).Y) (((u_comb_step v12 v17)).Y)) true))) = true then some (.nx ((iadd .i64 s0 1), (iadd .i64 s1 1)))
 else some (.nx (s0, (iadd .i64 s1 1)))))))
 else some (.dn s0))
def t_comb_Turns_L0_st (k0 : (FS api_Cell)) (s : (Int × Int)) : St := match s with
 | (s0, s1) => ⟨fr [(0, encF e_api_Cell k0), (3, .int .i64 s0), (4, .int .i64 s1)], hl []⟩
def t_comb_Turns_L0_out (k0 : (FS api_Cell)) (x : Int) : LE × St := (.exit 0, ⟨fr [(3, .int .i64 x)], hl []⟩)
theorem t_comb_Turns_L0_ok {k0 : (FS api_Cell)} {s : (Int × Int)} {r : Int} (h : loopT (t_comb_Turns_L0 k0) bigN s = some r) : LK env [] 0 [0, 3, 4] c30_L0 (some (t_comb_Turns_L0_st k0 s)) = some (t_comb_Turns_L0_out k0 r) := loop_walk (st := t_comb_Turns_L0_st k0) (out := t_comb_Turns_L0_out k0) (by
  clear h s r
  rintro ⟨s0, s1⟩ x h
  simp only [t_comb_Turns_L0] at h
  by_cases c6 : (ilt (iadd .i64 s1 1) (flen k0)) = true
  · rw [if_pos c6] at h
    cases h8 : fget k0 (isub .i64 s1 1) with
    | none => (rw [h8] at h; cases h)
    | some v9 =>
      simp only [h8] at h
      have f7 := iaddr_F (e := e_api_Cell) h8
      cases h11 : fget k0 s1 with
      | none => (rw [h11] at h; cases h)
      | some v12 =>
        simp only [h11] at h
        have f10 := iaddr_F (e := e_api_Cell) h11
        have f13 := u_comb_step_ok v9 v12
        cases h16 : fget k0 (iadd .i64 s1 1) with
        | none => (rw [h16] at h; cases h)
        | some v17 =>
          simp only [h16] at h
          have f15 := iaddr_F (e := e_api_Cell) h16
          have f18 := u_comb_step_ok v12 v17
          by_cases c19 : (bnot (band (ieq (((u_comb_step v9 v12)).X) (((u_comb_step v12 v17)).X)) (band (ieq (((u_comb_step v9 v12)).Y) (((u_comb_step v12 v17)).Y)) true))) = true
          · rw [if_pos c19] at h
            cases h
            show LK env [] 0 [0, 3, 4] c30_L0 (some (t_comb_Turns_L0_st k0 _)) = LK env [] 0 [0, 3, 4] c30_L0 (some (t_comb_Turns_L0_st k0 _))
            simp only [t_comb_Turns_L0_st]
            rw [LK_step]
            rcases tof (ieq (((u_comb_step v9 v12)).X) (((u_comb_step v12 v17)).X)) with a20 | a20
            · rcases tof (ieq (((u_comb_step v9 v12)).Y) (((u_comb_step v12 v17)).Y)) with a21 | a21
              · simp [c6, a20, a21] at c19
              · simp (maxSteps := 4000000) [c6, a20, a21, f7, f10, f13, f15, f18, e_api_Cell, e_i64, ↓c30_L0_u, c30_0, c30_1, c30_2, c30_3, c30_4, c30_5, c30_6, c30_7, c30_8, c30_10]
            · simp (maxSteps := 4000000) [c6, a20, f7, f10, f13, f15, f18, e_api_Cell, e_i64, ↓c30_L0_u, c30_0, c30_1, c30_2, c30_3, c30_4, c30_5, c30_6, c30_7, c30_8, c30_10]
          · rw [if_neg c19] at h
            rw [Bool.not_eq_true] at c19
            cases h
            show LK env [] 0 [0, 3, 4] c30_L0 (some (t_comb_Turns_L0_st k0 _)) = LK env [] 0 [0, 3, 4] c30_L0 (some (t_comb_Turns_L0_st k0 _))
            simp only [t_comb_Turns_L0_st]
            rw [LK_step]
            rcases tof (ieq (((u_comb_step v9 v12)).X) (((u_comb_step v12 v17)).X)) with a22 | a22
            · rcases tof (ieq (((u_comb_step v9 v12)).Y) (((u_comb_step v12 v17)).Y)) with a23 | a23
              · simp (maxSteps := 4000000) [c6, a22, a23, f7, f10, f13, f15, f18, e_api_Cell, e_i64, ↓c30_L0_u, c30_0, c30_1, c30_2, c30_3, c30_4, c30_5, c30_6, c30_7, c30_8, c30_10]
              · simp [c6, a22, a23] at c19
            · simp [c6, a22] at c19
  · rw [if_neg c6] at h
    rw [Bool.not_eq_true] at c6
    cases h
    show LK env [] 0 [0, 3, 4] c30_L0 (some (t_comb_Turns_L0_st k0 _)) = some (t_comb_Turns_L0_out k0 _)
    simp only [t_comb_Turns_L0_st, t_comb_Turns_L0_out]
    rw [LK_step]
    simp (maxSteps := 4000000) [c6, e_api_Cell, e_i64, ↓c30_L0_u, c30_0, c30_1, c30_2, c30_3, c30_4, c30_5, c30_6, c30_7, c30_8, c30_10]) bigN s r h
def t_comb_Turns (p0 : (FS api_Cell)) : Option Int := (match t_comb_way p0 with
 | none => none
 | some v3 => (if (bnot v3) = true then some 0
 else (match loopT (t_comb_Turns_L0 p0) bigN (0, 1) with
 | none => none
 | some v25 => some v25)))
theorem t_comb_Turns_ok {p0 : (FS api_Cell)} {r : Int} (h : t_comb_Turns p0 = some r) : FC env 30 [encF e_api_Cell p0] none = some (.int .i64 r, fun _ => none) := by
  unfold t_comb_Turns at h
  cases h2 : t_comb_way p0 with
  | none => (rw [h2] at h; cases h)
  | some v3 =>
    simp only [h2] at h
    have f1 := t_comb_way_ok h2
    by_cases c4 : (bnot v3) = true
    · rw [if_pos c4] at h
      cases h
      refine FC_pure (lf := lf30) rfl rfl rfl ?_
      simp only [lf30, lc30, c30_0, c30_1, c30_2, c30_3, c30_4, c30_5, c30_6, c30_7, c30_8, c30_10]
      rcases tof v3 with a5 | a5
      · simp [a5] at c4
      · simp (maxSteps := 4000000) [a5, f1, e_api_Cell, e_i64, ↓c30_L0_u]
    · rw [if_neg c4] at h
      rw [Bool.not_eq_true] at c4
      cases h24 : loopT (t_comb_Turns_L0 p0) bigN (0, 1) with
      | none => (rw [h24] at h; cases h)
      | some v25 =>
        simp only [h24] at h
        have f26 := t_comb_Turns_L0_ok h24
        simp only [t_comb_Turns_L0_st, t_comb_Turns_L0_out] at f26
        cases h
        refine FC_pure (lf := lf30) rfl rfl rfl ?_
        simp only [lf30, lc30, c30_0, c30_1, c30_2, c30_3, c30_4, c30_5, c30_6, c30_7, c30_8, c30_10]
        rcases tof v3 with a27 | a27
        · simp (maxSteps := 4000000) [a27, f1, f26, e_api_Cell, e_i64, ↓c30_L0_u]
        · simp [a27] at c4

/-! additivelaw34.eased -/
def u_additivelaw34_eased : Bool := true
theorem u_additivelaw34_eased_ok : FC env 32 [] none = some (.bool u_additivelaw34_eased, fun _ => none) := FC_iff.2 ⟨60, by kernel_rfl⟩

/-! additivelaw34.CombStraight -/
def t_additivelaw34_CombStraight (p0 : api_Cell) (p1 : api_Cell) : Option Bool := (match t_comb_Straight p0 p1 with
 | none => none
 | some v3 => (match t_additiveref34_Straight p0 p1 with
 | none => none
 | some v6 => (match t_additivelaw34_cells v3 v6 with
 | none => none
 | some v9 => some (band v9 u_additivelaw34_awake))))
theorem t_additivelaw34_CombStraight_ok {p0 : api_Cell} {p1 : api_Cell} {r : Bool} (h : t_additivelaw34_CombStraight p0 p1 = some r) : FC env 4 [.agg [.int .i64 p0.X, .int .i64 p0.Y], .agg [.int .i64 p1.X, .int .i64 p1.Y]] none = some (.bool r, fun _ => none) := by
  unfold t_additivelaw34_CombStraight at h
  cases h2 : t_comb_Straight p0 p1 with
  | none => (rw [h2] at h; cases h)
  | some v3 =>
    simp only [h2] at h
    have f1 := t_comb_Straight_ok h2
    cases h5 : t_additiveref34_Straight p0 p1 with
    | none => (rw [h5] at h; cases h)
    | some v6 =>
      simp only [h5] at h
      have f4 := t_additiveref34_Straight_ok h5
      cases h8 : t_additivelaw34_cells v3 v6 with
      | none => (rw [h8] at h; cases h)
      | some v9 =>
        simp only [h8] at h
        have f7 := t_additivelaw34_cells_ok h8
        have f10 := u_additivelaw34_awake_ok 
        cases h
        refine FC_pure (lf := lf4) rfl rfl rfl ?_
        simp only [lf4, lc4, c4_0, c4_1]
        rcases tof v9 with a11 | a11
        · simp (maxSteps := 4000000) [a11, f1, f4, f7, f10, e_api_Cell, e_i64]
        · simp (maxSteps := 4000000) [a11, f1, f4, f7, f10, e_api_Cell, e_i64]

/-! additivelaw34.CombLines -/
theorem c7_L0_u (Γ : Env) (ps : List Nat) (σ : St) : EC Γ ps 0 c7_L0 σ = EC Γ ps 0 (.seq (.seq (.reg false c7_5) (.cond (.t 57) .skip (.seq (.trim [2, 3, 5]) (.exit 0)))) (.seq (.blk 1 (.seq (.reg true c7_6) (.cond (.t 91) (.seq (.reg false c7_7) (.seq (.trim [4]) .ret)) .skip))) (.reg false c7_8))) σ := rfl
def t_additivelaw34_CombLines_L0 (k0 : api_Cell) (k1 : api_Cell) (k2 : (FS api_Cell)) (s : Int) : Option (LR Int (Bool ⊕ Unit)) := match s with
 | s0 => (if (ilt s0 (flen k2)) = true then (match fget k2 (isub .i64 s0 1) with
 | none => none
 | some v17 => (match fget k2 s0 with
 | none => none
 | some v20 => (if (bor (bnot (u_additivelaw34_step v17 v20)) (band (ine v17.X k1.X) (ine v20.Y k0.Y))) = true then some (.dn (.inl false))
 else some (.nx (iadd .i64 s0 1)))))
 else some (.dn (.inr ())))
def t_additivelaw34_CombLines_L0_st (k0 : api_Cell) (k1 : api_Cell) (k2 : (FS api_Cell)) (s : Int) : St := match s with
 | s0 => ⟨fr [(2, .ptr 2 0 0), (3, .ptr 3 0 0), (5, encF e_api_Cell k2), (6, .int .i64 s0)], hl [(2, .box 0 [.int .i64 k0.X, .int .i64 k0.Y]), (3, .box 0 [.int .i64 k1.X, .int .i64 k1.Y])]⟩
def t_additivelaw34_CombLines_L0_out (k0 : api_Cell) (k1 : api_Cell) (k2 : (FS api_Cell)) (x : (Bool ⊕ Unit)) : LE × St := match x with
 | .inl x => (.ret, ⟨fr [(4, .bool x)], hl []⟩)
 | .inr x => (.exit 0, ⟨fr [(2, .ptr 2 0 0), (3, .ptr 3 0 0), (5, encF e_api_Cell k2)], hl [(2, .box 0 [.int .i64 k0.X, .int .i64 k0.Y]), (3, .box 0 [.int .i64 k1.X, .int .i64 k1.Y])]⟩)
theorem t_additivelaw34_CombLines_L0_ok {k0 : api_Cell} {k1 : api_Cell} {k2 : (FS api_Cell)} {s : Int} {r : (Bool ⊕ Unit)} (h : loopT (t_additivelaw34_CombLines_L0 k0 k1 k2) bigN s = some r) : LK env [] 0 [2, 3, 5, 6] c7_L0 (some (t_additivelaw34_CombLines_L0_st k0 k1 k2 s)) = some (t_additivelaw34_CombLines_L0_out k0 k1 k2 r) := loop_walk (st := t_additivelaw34_CombLines_L0_st k0 k1 k2) (out := t_additivelaw34_CombLines_L0_out k0 k1 k2) (by
  clear h s r
  rintro s0 x h
  simp only [t_additivelaw34_CombLines_L0] at h
  by_cases c14 : (ilt s0 (flen k2)) = true
  · rw [if_pos c14] at h
    cases h16 : fget k2 (isub .i64 s0 1) with
    | none => (rw [h16] at h; cases h)
    | some v17 =>
      simp only [h16] at h
      have f15 := iaddr_F (e := e_api_Cell) h16
      cases h19 : fget k2 s0 with
      | none => (rw [h19] at h; cases h)
      | some v20 =>
        simp only [h19] at h
        have f18 := iaddr_F (e := e_api_Cell) h19
        have f21 := u_additivelaw34_step_ok v17 v20
        by_cases c24 : (bor (bnot (u_additivelaw34_step v17 v20)) (band (ine v17.X k1.X) (ine v20.Y k0.Y))) = true
        · rw [if_pos c24] at h
          cases h
          show LK env [] 0 [2, 3, 5, 6] c7_L0 (some (t_additivelaw34_CombLines_L0_st k0 k1 k2 _)) = some (t_additivelaw34_CombLines_L0_out k0 k1 k2 _)
          simp only [t_additivelaw34_CombLines_L0_st, t_additivelaw34_CombLines_L0_out]
          rw [LK_step]
          rcases tof (u_additivelaw34_step v17 v20) with a28 | a28
          · rcases tof (ine v17.X k1.X) with a29 | a29
            · rcases tof (ine v20.Y k0.Y) with a30 | a30
              · simp (maxSteps := 4000000) [c14, a28, a29, a30, f15, f18, f21, e_api_Cell, e_i64, ↓c7_L0_u, c7_0, c7_1, c7_2, c7_3, c7_4, c7_5, c7_6, c7_7, c7_8, c7_10]
              · simp [c14, a28, a29, a30] at c24
            · simp [c14, a28, a29] at c24
          · simp (maxSteps := 4000000) [c14, a28, f15, f18, f21, e_api_Cell, e_i64, ↓c7_L0_u, c7_0, c7_1, c7_2, c7_3, c7_4, c7_5, c7_6, c7_7, c7_8, c7_10]
        · rw [if_neg c24] at h
          rw [Bool.not_eq_true] at c24
          cases h
          show LK env [] 0 [2, 3, 5, 6] c7_L0 (some (t_additivelaw34_CombLines_L0_st k0 k1 k2 _)) = LK env [] 0 [2, 3, 5, 6] c7_L0 (some (t_additivelaw34_CombLines_L0_st k0 k1 k2 _))
          simp only [t_additivelaw34_CombLines_L0_st]
          rw [LK_step]
          rcases tof (u_additivelaw34_step v17 v20) with a25 | a25
          · rcases tof (ine v17.X k1.X) with a26 | a26
            · rcases tof (ine v20.Y k0.Y) with a27 | a27
              · simp [c14, a25, a26, a27] at c24
              · simp (maxSteps := 4000000) [c14, a25, a26, a27, f15, f18, f21, e_api_Cell, e_i64, ↓c7_L0_u, c7_0, c7_1, c7_2, c7_3, c7_4, c7_5, c7_6, c7_7, c7_8, c7_10]
            · simp (maxSteps := 4000000) [c14, a25, a26, f15, f18, f21, e_api_Cell, e_i64, ↓c7_L0_u, c7_0, c7_1, c7_2, c7_3, c7_4, c7_5, c7_6, c7_7, c7_8, c7_10]
          · simp [c14, a25] at c24
  · rw [if_neg c14] at h
    rw [Bool.not_eq_true] at c14
    cases h
    show LK env [] 0 [2, 3, 5, 6] c7_L0 (some (t_additivelaw34_CombLines_L0_st k0 k1 k2 _)) = some (t_additivelaw34_CombLines_L0_out k0 k1 k2 _)
    simp only [t_additivelaw34_CombLines_L0_st, t_additivelaw34_CombLines_L0_out]
    rw [LK_step]
    simp (maxSteps := 4000000) [c14, e_api_Cell, e_i64, ↓c7_L0_u, c7_0, c7_1, c7_2, c7_3, c7_4, c7_5, c7_6, c7_7, c7_8, c7_10]) bigN s r h
def t_additivelaw34_CombLines (p0 : api_Cell) (p1 : api_Cell) : Option Bool := (match t_comb_Straight p0 p1 with
 | none => none
 | some v3 => (if (ieq (flen v3) 0) = true then some (band (bor (bor (bor (bor (bor (bor (bor (ilt p0.X (-4096)) (ige p0.X 4096)) (ilt p0.Y (-4096))) (ige p0.Y 4096)) (ilt p1.X (-4096))) (ige p1.X 4096)) (ilt p1.Y (-4096))) (ige p1.Y 4096)) u_additivelaw34_awake)
 else (match loopT (t_additivelaw34_CombLines_L0 p0 p1 v3) bigN 1 with
 | none => none
 | some v32 => (match v32 with
 | .inl v32x => some v32x
 | .inr v32x => (match fget v3 0 with
 | none => none
 | some v36 => (match gOpt (band (ieq v36.X p0.X) (band (ieq v36.Y p0.Y) true)) (fget v3 (isub .i64 (flen v3) 1)) with
 | none => none
 | some v39 => some (band (band (band (band (ieq v36.X p0.X) (band (ieq v36.Y p0.Y) true)) (band (ieq (((v39.getD (⟨0, 0⟩ : api_Cell))).X) p1.X) (band (ieq (((v39.getD (⟨0, 0⟩ : api_Cell))).Y) p1.Y) true))) (ieq (flen v3) (iadd .i64 (iadd .i64 1 (imax (isub .i64 p0.X p1.X) (isub .i64 p1.X p0.X))) (imax (isub .i64 p0.Y p1.Y) (isub .i64 p1.Y p0.Y))))) u_additivelaw34_awake)))))))
theorem t_additivelaw34_CombLines_ok {p0 : api_Cell} {p1 : api_Cell} {r : Bool} (h : t_additivelaw34_CombLines p0 p1 = some r) : FC env 7 [.agg [.int .i64 p0.X, .int .i64 p0.Y], .agg [.int .i64 p1.X, .int .i64 p1.Y]] none = some (.bool r, fun _ => none) := by
  unfold t_additivelaw34_CombLines at h
  cases h2 : t_comb_Straight p0 p1 with
  | none => (rw [h2] at h; cases h)
  | some v3 =>
    simp only [h2] at h
    have f1 := t_comb_Straight_ok h2
    by_cases c4 : (ieq (flen v3) 0) = true
    · rw [if_pos c4] at h
      have f5 := u_additivelaw34_awake_ok 
      cases h
      refine FC_pure (lf := lf7) rfl rfl rfl ?_
      simp only [lf7, lc7, c7_0, c7_1, c7_2, c7_3, c7_4, c7_5, c7_6, c7_7, c7_8, c7_10]
      rcases tof (ilt p0.X (-4096)) with a6 | a6
      · simp (maxSteps := 4000000) [c4, a6, f1, f5, e_api_Cell, e_i64, ↓c7_L0_u]
      · rcases tof (ige p0.X 4096) with a7 | a7
        · simp (maxSteps := 4000000) [c4, a6, a7, f1, f5, e_api_Cell, e_i64, ↓c7_L0_u]
        · rcases tof (ilt p0.Y (-4096)) with a8 | a8
          · simp (maxSteps := 4000000) [c4, a6, a7, a8, f1, f5, e_api_Cell, e_i64, ↓c7_L0_u]
          · rcases tof (ige p0.Y 4096) with a9 | a9
            · simp (maxSteps := 4000000) [c4, a6, a7, a8, a9, f1, f5, e_api_Cell, e_i64, ↓c7_L0_u]
            · rcases tof (ilt p1.X (-4096)) with a10 | a10
              · simp (maxSteps := 4000000) [c4, a6, a7, a8, a9, a10, f1, f5, e_api_Cell, e_i64, ↓c7_L0_u]
              · rcases tof (ige p1.X 4096) with a11 | a11
                · simp (maxSteps := 4000000) [c4, a6, a7, a8, a9, a10, a11, f1, f5, e_api_Cell, e_i64, ↓c7_L0_u]
                · rcases tof (ilt p1.Y (-4096)) with a12 | a12
                  · simp (maxSteps := 4000000) [c4, a6, a7, a8, a9, a10, a11, a12, f1, f5, e_api_Cell, e_i64, ↓c7_L0_u]
                  · rcases tof (ige p1.Y 4096) with a13 | a13
                    · simp (maxSteps := 4000000) [c4, a6, a7, a8, a9, a10, a11, a12, a13, f1, f5, e_api_Cell, e_i64, ↓c7_L0_u]
                    · simp (maxSteps := 4000000) [c4, a6, a7, a8, a9, a10, a11, a12, a13, f1, f5, e_api_Cell, e_i64, ↓c7_L0_u]
    · rw [if_neg c4] at h
      rw [Bool.not_eq_true] at c4
      cases h31 : loopT (t_additivelaw34_CombLines_L0 p0 p1 v3) bigN 1 with
      | none => (rw [h31] at h; cases h)
      | some v32 =>
        simp only [h31] at h
        have f33 := t_additivelaw34_CombLines_L0_ok h31
        cases v32 with
        | inl v32x =>
          simp only [t_additivelaw34_CombLines_L0_st, t_additivelaw34_CombLines_L0_out] at h f33
          cases h
          refine FC_pure (lf := lf7) rfl rfl rfl ?_
          simp only [lf7, lc7, c7_0, c7_1, c7_2, c7_3, c7_4, c7_5, c7_6, c7_7, c7_8, c7_10]
          simp (maxSteps := 4000000) [c4, f1, f33, e_api_Cell, e_i64, ↓c7_L0_u]
        | inr v32x =>
          simp only [t_additivelaw34_CombLines_L0_st, t_additivelaw34_CombLines_L0_out] at h f33
          cases h35 : fget v3 0 with
          | none => (rw [h35] at h; cases h)
          | some v36 =>
            simp only [h35] at h
            have f34 := iaddr_F (e := e_api_Cell) h35
            cases h38 : gOpt (band (ieq v36.X p0.X) (band (ieq v36.Y p0.Y) true)) (fget v3 (isub .i64 (flen v3) 1)) with
            | none => (rw [h38] at h; cases h)
            | some v39 =>
              simp only [h38] at h
              have f37 := fun (q0 : (band (ieq v36.X p0.X) (band (ieq v36.Y p0.Y) true)) = true) => iaddr_F (e := e_api_Cell) (gOpt_getD (⟨0, 0⟩ : api_Cell) h38 q0)
              have f40 := u_additivelaw34_awake_ok 
              cases h
              refine FC_pure (lf := lf7) rfl rfl rfl ?_
              simp only [lf7, lc7, c7_0, c7_1, c7_2, c7_3, c7_4, c7_5, c7_6, c7_7, c7_8, c7_10]
              rcases tof (ieq v36.X p0.X) with a41 | a41
              · rcases tof (ieq v36.Y p0.Y) with a42 | a42
                · rcases tof (ieq (((v39.getD (⟨0, 0⟩ : api_Cell))).X) p1.X) with a43 | a43
                  · rcases tof (ieq (((v39.getD (⟨0, 0⟩ : api_Cell))).Y) p1.Y) with a44 | a44
                    · rcases tof (ieq (flen v3) (iadd .i64 (iadd .i64 1 (imax (isub .i64 p0.X p1.X) (isub .i64 p1.X p0.X))) (imax (isub .i64 p0.Y p1.Y) (isub .i64 p1.Y p0.Y)))) with a45 | a45
                      · simp (maxSteps := 4000000) [c4, a41, a42, a43, a44, a45, f1, f33, f34, f37, f40, e_api_Cell, e_i64, ↓c7_L0_u]
                      · simp (maxSteps := 4000000) [c4, a41, a42, a43, a44, a45, f1, f33, f34, f37, f40, e_api_Cell, e_i64, ↓c7_L0_u]
                    · simp (maxSteps := 4000000) [c4, a41, a42, a43, a44, f1, f33, f34, f37, f40, e_api_Cell, e_i64, ↓c7_L0_u]
                  · simp (maxSteps := 4000000) [c4, a41, a42, a43, f1, f33, f34, f37, f40, e_api_Cell, e_i64, ↓c7_L0_u]
                · simp (maxSteps := 4000000) [c4, a41, a42, f1, f33, f34, f37, f40, e_api_Cell, e_i64, ↓c7_L0_u]
              · simp (maxSteps := 4000000) [c4, a41, f1, f33, f34, f37, f40, e_api_Cell, e_i64, ↓c7_L0_u]

/-! additivelaw34.CombTurns -/
def t_additivelaw34_CombTurns (p0 : (FS api_Cell)) : Option Bool := (match gOpt (bnot (igt (flen p0) 200)) (t_comb_Turns p0) with
 | none => none
 | some v3 => (match gOpt (bnot (igt (flen p0) 200)) (t_additiveref34_Turns p0) with
 | none => none
 | some v6 => some (band (bor (igt (flen p0) 200) (ieq (v3.getD 0) (v6.getD 0))) u_additivelaw34_eased)))
theorem t_additivelaw34_CombTurns_ok {p0 : (FS api_Cell)} {r : Bool} (h : t_additivelaw34_CombTurns p0 = some r) : FC env 8 [encF e_api_Cell p0] none = some (.bool r, fun _ => none) := by
  unfold t_additivelaw34_CombTurns at h
  cases h2 : gOpt (bnot (igt (flen p0) 200)) (t_comb_Turns p0) with
  | none => (rw [h2] at h; cases h)
  | some v3 =>
    simp only [h2] at h
    have f1 := fun (q0 : (igt (flen p0) 200) = false) => t_comb_Turns_ok (gOpt_getD 0 h2 (bnot_mk q0))
    cases h5 : gOpt (bnot (igt (flen p0) 200)) (t_additiveref34_Turns p0) with
    | none => (rw [h5] at h; cases h)
    | some v6 =>
      simp only [h5] at h
      have f4 := fun (q0 : (igt (flen p0) 200) = false) => t_additiveref34_Turns_ok (gOpt_getD 0 h5 (bnot_mk q0))
      have f7 := u_additivelaw34_eased_ok 
      cases h
      refine FC_pure (lf := lf8) rfl rfl rfl ?_
      simp only [lf8, lc8, c8_0, c8_1]
      rcases tof (igt (flen p0) 200) with a8 | a8
      · simp (maxSteps := 4000000) [a8, f1, f4, f7, e_api_Cell, e_i64]
      · rcases tof (ieq (v3.getD 0) (v6.getD 0)) with a9 | a9
        · simp (maxSteps := 4000000) [a8, a9, f1, f4, f7, e_api_Cell, e_i64]
        · simp (maxSteps := 4000000) [a8, a9, f1, f4, f7, e_api_Cell, e_i64]
end Go.Proofs.Ytchiiiahgmfofaa
