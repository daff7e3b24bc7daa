/- Typed functions of this seat, each with the proof that the code computes it; by program (tg.py). -/
import Derived.Test.YtchiiiahgmfofaaCode
import Derived.Test.YtchiiiahgmfofaaVr
import Derived.KernelRfl
namespace Go.Proofs.Ytchiiiahgmfofaa
open Go Go.Vv Go.Proofs
set_option linter.unusedSimpArgs false
set_option linter.unusedVariables false
set_option maxRecDepth 100000
set_option maxHeartbeats 4000000
def e_i64 (x : Int) : List AV := [.int .i64 x]
instance : EncOK 1 e_i64 := ⟨fun _ => rfl, fun _ => by simp [e_i64]⟩
structure api_Cell where
  X : Int
  Y : Int
def e_api_Cell (x : api_Cell) : List AV := [.int .i64 x.X, .int .i64 x.Y]
instance : EncOK 2 e_api_Cell := ⟨fun _ => rfl, fun _ => by simp [e_api_Cell]⟩

/-! additivelaw40.awake -/
def u_additivelaw40_awake : Bool := true
theorem u_additivelaw40_awake_ok : FC env 39 [] none = some (.bool u_additivelaw40_awake, fun _ => none) := FC_iff.2 ⟨60, by kernel_rfl⟩

/-! additiveref40.ok -/
def u_additiveref40_ok (p0 : api_Cell) : Bool := (band (band (band (ige p0.X (-4096)) (ilt p0.X 4096)) (ige p0.Y (-4096))) (ilt p0.Y 4096))
def t_additiveref40_ok (p0 : api_Cell) : Option Bool := some (u_additiveref40_ok p0)
theorem u_additiveref40_ok_ok (p0 : api_Cell) : FC env 73 [.agg [.int .i64 p0.X, .int .i64 p0.Y]] none = some (.bool (u_additiveref40_ok p0), fun _ => none) := by
  unfold u_additiveref40_ok
  refine FC_pure (lf := lf73) rfl rfl rfl ?_
  simp only [lf73, lc73, c73_0, c73_1]
  rcases tof (ige p0.X (-4096)) with a1 | a1
  · rcases tof (ilt p0.X 4096) with a2 | a2
    · rcases tof (ige p0.Y (-4096)) with a3 | a3
      · simp (maxSteps := 4000000) [a1, a2, a3, e_api_Cell, e_i64]
      · simp (maxSteps := 4000000) [a1, a2, a3, e_api_Cell, e_i64]
    · simp (maxSteps := 4000000) [a1, a2, e_api_Cell, e_i64]
  · simp (maxSteps := 4000000) [a1, e_api_Cell, e_i64]
theorem t_additiveref40_ok_ok {p0 : api_Cell} {r : Bool} (h : t_additiveref40_ok p0 = some r) : FC env 73 [.agg [.int .i64 p0.X, .int .i64 p0.Y]] none = some (.bool r, fun _ => none) := by
  cases h
  exact u_additiveref40_ok_ok _

/-! emit.onGrid -/
def u_emit_onGrid (p0 : api_Cell) : Bool := (band (band (band (ige p0.X (-4096)) (ilt p0.X 4096)) (ige p0.Y (-4096))) (ilt p0.Y 4096))
def t_emit_onGrid (p0 : api_Cell) : Option Bool := some (u_emit_onGrid p0)
theorem u_emit_onGrid_ok (p0 : api_Cell) : FC env 84 [.agg [.int .i64 p0.X, .int .i64 p0.Y]] none = some (.bool (u_emit_onGrid p0), fun _ => none) := by
  unfold u_emit_onGrid
  refine FC_pure (lf := lf84) rfl rfl rfl ?_
  simp only [lf84, lc84, c84_0, c84_1]
  rcases tof (ige p0.X (-4096)) with a1 | a1
  · rcases tof (ilt p0.X 4096) with a2 | a2
    · rcases tof (ige p0.Y (-4096)) with a3 | a3
      · simp (maxSteps := 4000000) [a1, a2, a3, e_api_Cell, e_i64]
      · simp (maxSteps := 4000000) [a1, a2, a3, e_api_Cell, e_i64]
    · simp (maxSteps := 4000000) [a1, a2, e_api_Cell, e_i64]
  · simp (maxSteps := 4000000) [a1, e_api_Cell, e_i64]
theorem t_emit_onGrid_ok {p0 : api_Cell} {r : Bool} (h : t_emit_onGrid p0 = some r) : FC env 84 [.agg [.int .i64 p0.X, .int .i64 p0.Y]] none = some (.bool r, fun _ => none) := by
  cases h
  exact u_emit_onGrid_ok _

/-! emit.direction -/
def u_emit_direction (p0 : api_Cell) (p1 : api_Cell) : api_Cell := (⟨(isub .i64 p1.X p0.X), (isub .i64 p1.Y p0.Y)⟩ : api_Cell)
def t_emit_direction (p0 : api_Cell) (p1 : api_Cell) : Option api_Cell := some (u_emit_direction p0 p1)
theorem u_emit_direction_ok (p0 : api_Cell) (p1 : api_Cell) : FC env 110 [.agg [.int .i64 p0.X, .int .i64 p0.Y], .agg [.int .i64 p1.X, .int .i64 p1.Y]] none = some (.agg [.int .i64 (((u_emit_direction p0 p1)).X), .int .i64 (((u_emit_direction p0 p1)).Y)], fun _ => none) := by
  unfold u_emit_direction
  refine FC_pure (lf := lf110) rfl rfl rfl ?_
  simp only [lf110, lc110, c110_0, c110_1]
  simp (maxSteps := 4000000) [e_api_Cell, e_i64]
theorem t_emit_direction_ok {p0 : api_Cell} {p1 : api_Cell} {r : api_Cell} (h : t_emit_direction p0 p1 = some r) : FC env 110 [.agg [.int .i64 p0.X, .int .i64 p0.Y], .agg [.int .i64 p1.X, .int .i64 p1.Y]] none = some (.agg [.int .i64 r.X, .int .i64 r.Y], fun _ => none) := by
  cases h
  exact u_emit_direction_ok _ _

/-! additiveref40.turns -/
def u_additiveref40_turns (p0 : api_Cell) (p1 : api_Cell) (p2 : api_Cell) : Bool := (bor (ine (isub .i64 p1.X p0.X) (isub .i64 p2.X p1.X)) (ine (isub .i64 p1.Y p0.Y) (isub .i64 p2.Y p1.Y)))
def t_additiveref40_turns (p0 : api_Cell) (p1 : api_Cell) (p2 : api_Cell) : Option Bool := some (u_additiveref40_turns p0 p1 p2)
theorem u_additiveref40_turns_ok (p0 : api_Cell) (p1 : api_Cell) (p2 : api_Cell) : FC env 111 [.agg [.int .i64 p0.X, .int .i64 p0.Y], .agg [.int .i64 p1.X, .int .i64 p1.Y], .agg [.int .i64 p2.X, .int .i64 p2.Y]] none = some (.bool (u_additiveref40_turns p0 p1 p2), fun _ => none) := by
  unfold u_additiveref40_turns
  refine FC_pure (lf := lf111) rfl rfl rfl ?_
  simp only [lf111, lc111, c111_0, c111_1]
  rcases tof (ine (isub .i64 p1.X p0.X) (isub .i64 p2.X p1.X)) with a1 | a1
  · simp (maxSteps := 4000000) [a1, e_api_Cell, e_i64]
  · simp (maxSteps := 4000000) [a1, e_api_Cell, e_i64]
theorem t_additiveref40_turns_ok {p0 : api_Cell} {p1 : api_Cell} {p2 : api_Cell} {r : Bool} (h : t_additiveref40_turns p0 p1 p2 = some r) : FC env 111 [.agg [.int .i64 p0.X, .int .i64 p0.Y], .agg [.int .i64 p1.X, .int .i64 p1.Y], .agg [.int .i64 p2.X, .int .i64 p2.Y]] none = some (.bool r, fun _ => none) := by
  cases h
  exact u_additiveref40_turns_ok _ _ _

/-! emit.inside -/
theorem c71_L0_u (Γ : Env) (ps : List Nat) (σ : St) : EC Γ ps 0 c71_L0 σ = EC Γ ps 0 (.seq (.reg false c71_2) (.seq (.cond (.t 8) .skip (.seq (.trim []) (.exit 0))) (.seq (.blk 1 (.seq (.reg false c71_3) (.seq (.reg false c71_4) (.cond (.t 13) (.seq (.reg false c71_5) (.seq (.trim [2]) .ret)) .skip)))) (.reg false c71_6)))) σ := rfl
def t_emit_inside_L0 (k0 : (FS api_Cell)) (k1 : Int) (s : Int) : Option (LR Int (Bool ⊕ Unit)) := match s with
 | s0 => (if (ilt s0 k1) = true then (match fget k0 s0 with
 | none => none
 | some v4 => (if (bnot (u_emit_onGrid v4)) = true then some (.dn (.inl false))
 else some (.nx (iadd .i64 s0 1))))
 else some (.dn (.inr ())))
def t_emit_inside_L0_st (k0 : (FS api_Cell)) (k1 : Int) (s : Int) : St := match s with
 | s0 => ⟨fr [(5, encF e_api_Cell k0), (6, .int .i64 k1), (7, .int .i64 s0)], hl []⟩
def t_emit_inside_L0_out (k0 : (FS api_Cell)) (k1 : Int) (x : (Bool ⊕ Unit)) : LE × St := match x with
 | .inl x => (.ret, ⟨fr [(2, .bool x)], hl []⟩)
 | .inr x => (.exit 0, ⟨fr [], hl []⟩)
theorem t_emit_inside_L0_ok {k0 : (FS api_Cell)} {k1 : Int} {s : Int} {r : (Bool ⊕ Unit)} (h : loopT (t_emit_inside_L0 k0 k1) bigN s = some r) : LK env [] 0 [5, 6, 7] c71_L0 (some (t_emit_inside_L0_st k0 k1 s)) = some (t_emit_inside_L0_out k0 k1 r) := loop_walk (st := t_emit_inside_L0_st k0 k1) (out := t_emit_inside_L0_out k0 k1) (by
  clear h s r
  rintro s0 x h
  simp only [t_emit_inside_L0] at h
  by_cases c1 : (ilt s0 k1) = true
  · rw [if_pos c1] at h
    cases h3 : fget k0 s0 with
    | none => (rw [h3] at h; cases h)
    | some v4 =>
      simp only [h3] at h
      have f2 := iaddr_F (e := e_api_Cell) h3
      have f5 := u_emit_onGrid_ok v4
      by_cases c6 : (bnot (u_emit_onGrid v4)) = true
      · rw [if_pos c6] at h
        cases h
        show LK env [] 0 [5, 6, 7] c71_L0 (some (t_emit_inside_L0_st k0 k1 _)) = some (t_emit_inside_L0_out k0 k1 _)
        simp only [t_emit_inside_L0_st, t_emit_inside_L0_out]
        rw [LK_step]
        rcases tof (u_emit_onGrid v4) with a8 | a8
        · simp [c1, a8] at c6
        · simp (maxSteps := 4000000) [c1, a8, f2, f5, e_api_Cell, e_i64, ↓c71_L0_u, c71_0, c71_1, c71_2, c71_3, c71_4, c71_5, c71_6, c71_8]
      · rw [if_neg c6] at h
        rw [Bool.not_eq_true] at c6
        cases h
        show LK env [] 0 [5, 6, 7] c71_L0 (some (t_emit_inside_L0_st k0 k1 _)) = LK env [] 0 [5, 6, 7] c71_L0 (some (t_emit_inside_L0_st k0 k1 _))
        simp only [t_emit_inside_L0_st]
        rw [LK_step]
        rcases tof (u_emit_onGrid v4) with a7 | a7
        · simp (maxSteps := 4000000) [c1, a7, f2, f5, e_api_Cell, e_i64, ↓c71_L0_u, c71_0, c71_1, c71_2, c71_3, c71_4, c71_5, c71_6, c71_8]
        · simp [c1, a7] at c6
  · rw [if_neg c1] at h
    rw [Bool.not_eq_true] at c1
    cases h
    show LK env [] 0 [5, 6, 7] c71_L0 (some (t_emit_inside_L0_st k0 k1 _)) = some (t_emit_inside_L0_out k0 k1 _)
    simp only [t_emit_inside_L0_st, t_emit_inside_L0_out]
    rw [LK_step]
    simp (maxSteps := 4000000) [c1, e_api_Cell, e_i64, ↓c71_L0_u, c71_0, c71_1, c71_2, c71_3, c71_4, c71_5, c71_6, c71_8]) bigN s r h
def t_emit_inside (p0 : (FS api_Cell)) : Option Bool := (match loopT (t_emit_inside_L0 p0 (flen p0)) bigN 0 with
 | none => none
 | some v10 => (match v10 with
 | .inl v10x => some v10x
 | .inr v10x => some true))
theorem t_emit_inside_ok {p0 : (FS api_Cell)} {r : Bool} (h : t_emit_inside p0 = some r) : FC env 71 [encF e_api_Cell p0] none = some (.bool r, fun _ => none) := by
  unfold t_emit_inside at h
  cases h9 : loopT (t_emit_inside_L0 p0 (flen p0)) bigN 0 with
  | none => (rw [h9] at h; cases h)
  | some v10 =>
    simp only [h9] at h
    have f11 := t_emit_inside_L0_ok h9
    cases v10 with
    | inl v10x =>
      simp only [t_emit_inside_L0_st, t_emit_inside_L0_out] at h f11
      cases h
      refine FC_pure (lf := lf71) rfl rfl rfl ?_
      simp only [lf71, lc71, c71_0, c71_1, c71_2, c71_3, c71_4, c71_5, c71_6, c71_8]
      simp (maxSteps := 4000000) [f11, e_api_Cell, e_i64, ↓c71_L0_u]
    | inr v10x =>
      simp only [t_emit_inside_L0_st, t_emit_inside_L0_out] at h f11
      cases h
      refine FC_pure (lf := lf71) rfl rfl rfl ?_
      simp only [lf71, lc71, c71_0, c71_1, c71_2, c71_3, c71_4, c71_5, c71_6, c71_8]
      simp (maxSteps := 4000000) [f11, e_api_Cell, e_i64, ↓c71_L0_u]

/-! emit.turns -/
theorem c85_L0_u (Γ : Env) (ps : List Nat) (σ : St) : EC Γ ps 0 c85_L0 σ = EC Γ ps 0 (.seq (.reg false c85_3) (.seq (.cond (.t 11) .skip (.seq (.trim [5]) (.exit 0))) (.seq (.blk 1 (.seq (.reg false c85_4) (.seq (.seq (.reg true c85_5) (.cond (.t 32) (.reg false c85_6) .skip)) (.reg false c85_7)))) (.reg false c85_8)))) σ := rfl
def t_emit_turns_L0 (k0 : (FS api_Cell)) (k1 : (FS api_Cell)) (k2 : Int) (s : (api_Cell × (OS Int) × Int)) : Option (LR (api_Cell × (OS Int) × Int) (OS Int)) := match s with
 | (s0, s1, s2) => (match s1 with
 | .nil => (if (ilt s2 k2) = true then (match fget k1 s2 with
 | none => none
 | some v22 => (match gOpt (bnot (ieq s2 (isub .i64 (flen k0) 1))) (fget k0 (iadd .i64 s2 1)) with
 | none => none
 | some v26 => (if (bor (ieq s2 (isub .i64 (flen k0) 1)) (bnot (band (ieq (((u_emit_direction s0 v22)).X) (((u_emit_direction v22 (v26.getD (⟨0, 0⟩ : api_Cell)))).X)) (band (ieq (((u_emit_direction s0 v22)).Y) (((u_emit_direction v22 (v26.getD (⟨0, 0⟩ : api_Cell)))).Y)) true)))) = true then (if fits 8 1 = true then some (.nx (v22, (.own (osnoc ([] : List Int) s2)), (iadd .i64 s2 1))) else none)
 else some (.nx (v22, .nil, (iadd .i64 s2 1))))))
 else some (.dn .nil))
 | .own s1l => (if (ilt s2 k2) = true then (match fget k1 s2 with
 | none => none
 | some v40 => (match gOpt (bnot (ieq s2 (isub .i64 (flen k0) 1))) (fget k0 (iadd .i64 s2 1)) with
 | none => none
 | some v44 => (if (bor (ieq s2 (isub .i64 (flen k0) 1)) (bnot (band (ieq (((u_emit_direction s0 v40)).X) (((u_emit_direction v40 (v44.getD (⟨0, 0⟩ : api_Cell)))).X)) (band (ieq (((u_emit_direction s0 v40)).Y) (((u_emit_direction v40 (v44.getD (⟨0, 0⟩ : api_Cell)))).Y)) true)))) = true then (if fits 8 (olen s1l + 1) = true then some (.nx (v40, (.own (osnoc s1l s2)), (iadd .i64 s2 1))) else none)
 else some (.nx (v40, (.own s1l), (iadd .i64 s2 1))))))
 else some (.dn (.own s1l))))
def t_emit_turns_L0_st (k0 : (FS api_Cell)) (k1 : (FS api_Cell)) (k2 : Int) (s : (api_Cell × (OS Int) × Int)) : St := match s with
 | (s0, s1, s2) => (match s1 with
 | .nil => ⟨fr [(0, encF e_api_Cell k0), (3, .ptr 3 0 0), (5, .nils), (8, encF e_api_Cell k1), (9, .int .i64 k2), (10, .int .i64 s2)], hl [(3, .box 0 [.int .i64 s0.X, .int .i64 s0.Y])]⟩
 | .own s1l => ⟨fr [(0, encF e_api_Cell k0), (3, .ptr 3 0 0), (5, .arr 5 0 0 s1l.length), (8, encF e_api_Cell k1), (9, .int .i64 k2), (10, .int .i64 s2)], hl [(3, .box 0 [.int .i64 s0.X, .int .i64 s0.Y]), (5, .arr 0 1 3 (cellsE e_i64 s1l) false)]⟩)
def t_emit_turns_L0_out (k0 : (FS api_Cell)) (k1 : (FS api_Cell)) (k2 : Int) (x : (OS Int)) : LE × St := (match x with
 | .nil => (.exit 0, ⟨fr [(5, .nils)], hl []⟩)
 | .own l0 => (.exit 0, ⟨fr [(5, .arr 5 0 0 l0.length)], hl [(5, .arr 0 1 3 (cellsE e_i64 l0) false)]⟩))
theorem t_emit_turns_L0_ok {k0 : (FS api_Cell)} {k1 : (FS api_Cell)} {k2 : Int} {s : (api_Cell × (OS Int) × Int)} {r : (OS Int)} (h : loopT (t_emit_turns_L0 k0 k1 k2) bigN s = some r) : LK env [] 0 [0, 3, 5, 8, 9, 10] c85_L0 (some (t_emit_turns_L0_st k0 k1 k2 s)) = some (t_emit_turns_L0_out k0 k1 k2 r) := loop_walk (st := t_emit_turns_L0_st k0 k1 k2) (out := t_emit_turns_L0_out k0 k1 k2) (by
  clear h s r
  rintro ⟨s0, s1, s2⟩ x h
  simp only [t_emit_turns_L0] at h
  cases s1 with
  | nil =>
    try dsimp only at h
    by_cases c19 : (ilt s2 k2) = true
    · rw [if_pos c19] at h
      cases h21 : fget k1 s2 with
      | none => (rw [h21] at h; cases h)
      | some v22 =>
        simp only [h21] at h
        have f20 := iaddr_F (e := e_api_Cell) h21
        have f23 := u_emit_direction_ok s0 v22
        cases h25 : gOpt (bnot (ieq s2 (isub .i64 (flen k0) 1))) (fget k0 (iadd .i64 s2 1)) with
        | none => (rw [h25] at h; cases h)
        | some v26 =>
          simp only [h25] at h
          have f24 := fun (q0 : (ieq s2 (isub .i64 (flen k0) 1)) = false) => iaddr_F (e := e_api_Cell) (gOpt_getD (⟨0, 0⟩ : api_Cell) h25 (bnot_mk q0))
          have f27 := u_emit_direction_ok v22 (v26.getD (⟨0, 0⟩ : api_Cell))
          by_cases c28 : (bor (ieq s2 (isub .i64 (flen k0) 1)) (bnot (band (ieq (((u_emit_direction s0 v22)).X) (((u_emit_direction v22 (v26.getD (⟨0, 0⟩ : api_Cell)))).X)) (band (ieq (((u_emit_direction s0 v22)).Y) (((u_emit_direction v22 (v26.getD (⟨0, 0⟩ : api_Cell)))).Y)) true)))) = true
          · rw [if_pos c28] at h
            by_cases h29 : fits 8 1 = true
            · rw [if_pos h29] at h
              have f30 := fun H g0 y => @app_nil1 _ _ e_i64 _ s2 8 h29 (by decide) H g0 3 y
              simp only [e_i64] at f30
              cases h
              show LK env [] 0 [0, 3, 5, 8, 9, 10] c85_L0 (some (t_emit_turns_L0_st k0 k1 k2 _)) = LK env [] 0 [0, 3, 5, 8, 9, 10] c85_L0 (some (t_emit_turns_L0_st k0 k1 k2 _))
              simp only [t_emit_turns_L0_st]
              rw [LK_step]
              rcases tof (ieq s2 (isub .i64 (flen k0) 1)) with a31 | a31
              · simp (maxSteps := 4000000) [c19, a31, f20, f23, f24, f27, f30, e_api_Cell, e_i64, ↓c85_L0_u, c85_0, c85_1, c85_2, c85_3, c85_4, c85_5, c85_6, c85_7, c85_8, c85_10]
              · rcases tof (ieq (((u_emit_direction s0 v22)).X) (((u_emit_direction v22 (v26.getD (⟨0, 0⟩ : api_Cell)))).X)) with a32 | a32
                · rcases tof (ieq (((u_emit_direction s0 v22)).Y) (((u_emit_direction v22 (v26.getD (⟨0, 0⟩ : api_Cell)))).Y)) with a33 | a33
                  · simp [c19, a31, a32, a33] at c28
                  · simp (maxSteps := 4000000) [c19, a31, a32, a33, f20, f23, f24, f27, f30, e_api_Cell, e_i64, ↓c85_L0_u, c85_0, c85_1, c85_2, c85_3, c85_4, c85_5, c85_6, c85_7, c85_8, c85_10]
                · simp (maxSteps := 4000000) [c19, a31, a32, f20, f23, f24, f27, f30, e_api_Cell, e_i64, ↓c85_L0_u, c85_0, c85_1, c85_2, c85_3, c85_4, c85_5, c85_6, c85_7, c85_8, c85_10]
            · rw [if_neg h29] at h; cases h
          · rw [if_neg c28] at h
            rw [Bool.not_eq_true] at c28
            cases h
            show LK env [] 0 [0, 3, 5, 8, 9, 10] c85_L0 (some (t_emit_turns_L0_st k0 k1 k2 _)) = LK env [] 0 [0, 3, 5, 8, 9, 10] c85_L0 (some (t_emit_turns_L0_st k0 k1 k2 _))
            simp only [t_emit_turns_L0_st]
            rw [LK_step]
            rcases tof (ieq s2 (isub .i64 (flen k0) 1)) with a34 | a34
            · simp [c19, a34] at c28
            · rcases tof (ieq (((u_emit_direction s0 v22)).X) (((u_emit_direction v22 (v26.getD (⟨0, 0⟩ : api_Cell)))).X)) with a35 | a35
              · rcases tof (ieq (((u_emit_direction s0 v22)).Y) (((u_emit_direction v22 (v26.getD (⟨0, 0⟩ : api_Cell)))).Y)) with a36 | a36
                · simp (maxSteps := 4000000) [c19, a34, a35, a36, f20, f23, f24, f27, e_api_Cell, e_i64, ↓c85_L0_u, c85_0, c85_1, c85_2, c85_3, c85_4, c85_5, c85_6, c85_7, c85_8, c85_10]
                · simp [c19, a34, a35, a36] at c28
              · simp [c19, a34, a35] at c28
    · rw [if_neg c19] at h
      rw [Bool.not_eq_true] at c19
      cases h
      show LK env [] 0 [0, 3, 5, 8, 9, 10] c85_L0 (some (t_emit_turns_L0_st k0 k1 k2 _)) = some (t_emit_turns_L0_out k0 k1 k2 _)
      simp only [t_emit_turns_L0_st, t_emit_turns_L0_out]
      rw [LK_step]
      simp (maxSteps := 4000000) [c19, e_api_Cell, e_i64, ↓c85_L0_u, c85_0, c85_1, c85_2, c85_3, c85_4, c85_5, c85_6, c85_7, c85_8, c85_10]
  | own s1l =>
    try dsimp only at h
    by_cases c37 : (ilt s2 k2) = true
    · rw [if_pos c37] at h
      cases h39 : fget k1 s2 with
      | none => (rw [h39] at h; cases h)
      | some v40 =>
        simp only [h39] at h
        have f38 := iaddr_F (e := e_api_Cell) h39
        have f41 := u_emit_direction_ok s0 v40
        cases h43 : gOpt (bnot (ieq s2 (isub .i64 (flen k0) 1))) (fget k0 (iadd .i64 s2 1)) with
        | none => (rw [h43] at h; cases h)
        | some v44 =>
          simp only [h43] at h
          have f42 := fun (q0 : (ieq s2 (isub .i64 (flen k0) 1)) = false) => iaddr_F (e := e_api_Cell) (gOpt_getD (⟨0, 0⟩ : api_Cell) h43 (bnot_mk q0))
          have f45 := u_emit_direction_ok v40 (v44.getD (⟨0, 0⟩ : api_Cell))
          by_cases c46 : (bor (ieq s2 (isub .i64 (flen k0) 1)) (bnot (band (ieq (((u_emit_direction s0 v40)).X) (((u_emit_direction v40 (v44.getD (⟨0, 0⟩ : api_Cell)))).X)) (band (ieq (((u_emit_direction s0 v40)).Y) (((u_emit_direction v40 (v44.getD (⟨0, 0⟩ : api_Cell)))).Y)) true)))) = true
          · rw [if_pos c46] at h
            by_cases h47 : fits 8 (olen s1l + 1) = true
            · rw [if_pos h47] at h
              have f48 := fun g0 H y => @app_one _ _ e_i64 _ s1l s2 8 h47 (by decide) g0 H 5 0 3 y
              simp only [e_i64] at f48
              cases h
              show LK env [] 0 [0, 3, 5, 8, 9, 10] c85_L0 (some (t_emit_turns_L0_st k0 k1 k2 _)) = LK env [] 0 [0, 3, 5, 8, 9, 10] c85_L0 (some (t_emit_turns_L0_st k0 k1 k2 _))
              simp only [t_emit_turns_L0_st]
              rw [LK_step]
              rcases tof (ieq s2 (isub .i64 (flen k0) 1)) with a49 | a49
              · simp (maxSteps := 4000000) [c37, a49, f38, f41, f42, f45, f48, e_api_Cell, e_i64, ↓c85_L0_u, c85_0, c85_1, c85_2, c85_3, c85_4, c85_5, c85_6, c85_7, c85_8, c85_10]
              · rcases tof (ieq (((u_emit_direction s0 v40)).X) (((u_emit_direction v40 (v44.getD (⟨0, 0⟩ : api_Cell)))).X)) with a50 | a50
                · rcases tof (ieq (((u_emit_direction s0 v40)).Y) (((u_emit_direction v40 (v44.getD (⟨0, 0⟩ : api_Cell)))).Y)) with a51 | a51
                  · simp [c37, a49, a50, a51] at c46
                  · simp (maxSteps := 4000000) [c37, a49, a50, a51, f38, f41, f42, f45, f48, e_api_Cell, e_i64, ↓c85_L0_u, c85_0, c85_1, c85_2, c85_3, c85_4, c85_5, c85_6, c85_7, c85_8, c85_10]
                · simp (maxSteps := 4000000) [c37, a49, a50, f38, f41, f42, f45, f48, e_api_Cell, e_i64, ↓c85_L0_u, c85_0, c85_1, c85_2, c85_3, c85_4, c85_5, c85_6, c85_7, c85_8, c85_10]
            · rw [if_neg h47] at h; cases h
          · rw [if_neg c46] at h
            rw [Bool.not_eq_true] at c46
            cases h
            show LK env [] 0 [0, 3, 5, 8, 9, 10] c85_L0 (some (t_emit_turns_L0_st k0 k1 k2 _)) = LK env [] 0 [0, 3, 5, 8, 9, 10] c85_L0 (some (t_emit_turns_L0_st k0 k1 k2 _))
            simp only [t_emit_turns_L0_st]
            rw [LK_step]
            rcases tof (ieq s2 (isub .i64 (flen k0) 1)) with a52 | a52
            · simp [c37, a52] at c46
            · rcases tof (ieq (((u_emit_direction s0 v40)).X) (((u_emit_direction v40 (v44.getD (⟨0, 0⟩ : api_Cell)))).X)) with a53 | a53
              · rcases tof (ieq (((u_emit_direction s0 v40)).Y) (((u_emit_direction v40 (v44.getD (⟨0, 0⟩ : api_Cell)))).Y)) with a54 | a54
                · simp (maxSteps := 4000000) [c37, a52, a53, a54, f38, f41, f42, f45, e_api_Cell, e_i64, ↓c85_L0_u, c85_0, c85_1, c85_2, c85_3, c85_4, c85_5, c85_6, c85_7, c85_8, c85_10]
                · simp [c37, a52, a53, a54] at c46
              · simp [c37, a52, a53] at c46
    · rw [if_neg c37] at h
      rw [Bool.not_eq_true] at c37
      cases h
      show LK env [] 0 [0, 3, 5, 8, 9, 10] c85_L0 (some (t_emit_turns_L0_st k0 k1 k2 _)) = some (t_emit_turns_L0_out k0 k1 k2 _)
      simp only [t_emit_turns_L0_st, t_emit_turns_L0_out]
      rw [LK_step]
      simp (maxSteps := 4000000) [c37, e_api_Cell, e_i64, ↓c85_L0_u, c85_0, c85_1, c85_2, c85_3, c85_4, c85_5, c85_6, c85_7, c85_8, c85_10]) bigN s r h
def t_emit_turns (p0 : (FS api_Cell)) (p1 : api_Cell) : Option (FS Int) := (match loopT (t_emit_turns_L0 p0 p0 (flen p0)) bigN (p1, .nil, 0) with
 | none => none
 | some v56 => (match v56 with
 | .nil => some (FS.nil : (FS Int))
 | .own l59 => some (FS.lst l59)))
theorem t_emit_turns_ok {p0 : (FS api_Cell)} {p1 : api_Cell} {r : (FS Int)} (h : t_emit_turns p0 p1 = some r) : FC env 85 [encF e_api_Cell p0, .agg [.int .i64 p1.X, .int .i64 p1.Y]] none = some (encF e_i64 r, fun _ => none) := by
  unfold t_emit_turns at h
  cases h55 : loopT (t_emit_turns_L0 p0 p0 (flen p0)) bigN (p1, .nil, 0) with
  | none => (rw [h55] at h; cases h)
  | some v56 =>
    simp only [h55] at h
    have f57 := t_emit_turns_L0_ok h55
    simp only [t_emit_turns_L0_st, t_emit_turns_L0_out] at f57
    cases q58 : v56 with
    | nil =>
      simp only [q58] at h f57
      cases h
      refine FC_pure (lf := lf85) rfl rfl rfl ?_
      simp only [lf85, lc85, c85_0, c85_1, c85_2, c85_3, c85_4, c85_5, c85_6, c85_7, c85_8, c85_10]
      simp (maxSteps := 4000000) [f57, e_api_Cell, e_i64, ↓c85_L0_u]
    | own l59 =>
      simp only [q58] at h f57
      cases h
      refine FC_pure (lf := lf85) rfl rfl rfl ?_
      simp only [lf85, lc85, c85_0, c85_1, c85_2, c85_3, c85_4, c85_5, c85_6, c85_7, c85_8, c85_10]
      simp (maxSteps := 4000000) [f57, e_api_Cell, e_i64, ↓c85_L0_u, snap_arrD (e := e_i64) (el := 3) (fz := false)]

/-! additiveref40.corners -/
theorem c86_L0_u (Γ : Env) (ps : List Nat) (σ : St) : EC Γ ps 0 c86_L0 σ = EC Γ ps 0 (.seq (.seq (.reg false c86_4) (.cond (.t 12) .skip (.seq (.trim [5]) (.exit 0)))) (.seq (.blk 1 (.seq (.seq (.reg true c86_5) (.cond (.t 32) (.reg false c86_6) .skip)) (.reg false c86_7))) (.reg false c86_8))) σ := rfl
def t_additiveref40_corners_L0 (k0 : (FS api_Cell)) (s : ((OS Int) × api_Cell × Int)) : Option (LR ((OS Int) × api_Cell × Int) (OS Int)) := match s with
 | (s0, s1, s2) => (match s0 with
 | .nil => (if (ilt s2 (flen k0)) = true then (match gOpt (bnot (ieq s2 (isub .i64 (flen k0) 1))) (fget k0 s2) with
 | none => none
 | some v27 => (match gOpt (bnot (ieq s2 (isub .i64 (flen k0) 1))) (fget k0 (iadd .i64 s2 1)) with
 | none => none
 | some v30 => (if (bor (ieq s2 (isub .i64 (flen k0) 1)) (u_additiveref40_turns s1 (v27.getD (⟨0, 0⟩ : api_Cell)) (v30.getD (⟨0, 0⟩ : api_Cell)))) = true then (if fits 8 1 = true then (match fget k0 s2 with
 | none => none
 | some v37 => some (.nx ((.own (osnoc ([] : List Int) s2)), v37, (iadd .i64 s2 1)))) else none)
 else (match fget k0 s2 with
 | none => none
 | some v43 => some (.nx (.nil, v43, (iadd .i64 s2 1)))))))
 else some (.dn .nil))
 | .own s0l => (if (ilt s2 (flen k0)) = true then (match gOpt (bnot (ieq s2 (isub .i64 (flen k0) 1))) (fget k0 s2) with
 | none => none
 | some v50 => (match gOpt (bnot (ieq s2 (isub .i64 (flen k0) 1))) (fget k0 (iadd .i64 s2 1)) with
 | none => none
 | some v53 => (if (bor (ieq s2 (isub .i64 (flen k0) 1)) (u_additiveref40_turns s1 (v50.getD (⟨0, 0⟩ : api_Cell)) (v53.getD (⟨0, 0⟩ : api_Cell)))) = true then (if fits 8 (olen s0l + 1) = true then (match fget k0 s2 with
 | none => none
 | some v60 => some (.nx ((.own (osnoc s0l s2)), v60, (iadd .i64 s2 1)))) else none)
 else (match fget k0 s2 with
 | none => none
 | some v66 => some (.nx ((.own s0l), v66, (iadd .i64 s2 1)))))))
 else some (.dn (.own s0l))))
def t_additiveref40_corners_L0_st (k0 : (FS api_Cell)) (s : ((OS Int) × api_Cell × Int)) : St := match s with
 | (s0, s1, s2) => (match s0 with
 | .nil => ⟨fr [(0, encF e_api_Cell k0), (5, .nils), (6, .ptr 6 0 0), (7, .int .i64 s2)], hl [(6, .box 0 [.int .i64 s1.X, .int .i64 s1.Y])]⟩
 | .own s0l => ⟨fr [(0, encF e_api_Cell k0), (5, .arr 5 0 0 s0l.length), (6, .ptr 6 0 0), (7, .int .i64 s2)], hl [(5, .arr 0 1 3 (cellsE e_i64 s0l) false), (6, .box 0 [.int .i64 s1.X, .int .i64 s1.Y])]⟩)
def t_additiveref40_corners_L0_out (k0 : (FS api_Cell)) (x : (OS Int)) : LE × St := (match x with
 | .nil => (.exit 0, ⟨fr [(5, .nils)], hl []⟩)
 | .own l0 => (.exit 0, ⟨fr [(5, .arr 5 0 0 l0.length)], hl [(5, .arr 0 1 3 (cellsE e_i64 l0) false)]⟩))
theorem t_additiveref40_corners_L0_ok {k0 : (FS api_Cell)} {s : ((OS Int) × api_Cell × Int)} {r : (OS Int)} (h : loopT (t_additiveref40_corners_L0 k0) bigN s = some r) : LK env [] 0 [0, 5, 6, 7] c86_L0 (some (t_additiveref40_corners_L0_st k0 s)) = some (t_additiveref40_corners_L0_out k0 r) := loop_walk (st := t_additiveref40_corners_L0_st k0) (out := t_additiveref40_corners_L0_out k0) (by
  clear h s r
  rintro ⟨s0, s1, s2⟩ x h
  simp only [t_additiveref40_corners_L0] at h
  cases s0 with
  | nil =>
    try dsimp only at h
    by_cases c24 : (ilt s2 (flen k0)) = true
    · rw [if_pos c24] at h
      cases h26 : gOpt (bnot (ieq s2 (isub .i64 (flen k0) 1))) (fget k0 s2) with
      | none => (rw [h26] at h; cases h)
      | some v27 =>
        simp only [h26] at h
        have f25 := fun (q0 : (ieq s2 (isub .i64 (flen k0) 1)) = false) => iaddr_F (e := e_api_Cell) (gOpt_getD (⟨0, 0⟩ : api_Cell) h26 (bnot_mk q0))
        cases h29 : gOpt (bnot (ieq s2 (isub .i64 (flen k0) 1))) (fget k0 (iadd .i64 s2 1)) with
        | none => (rw [h29] at h; cases h)
        | some v30 =>
          simp only [h29] at h
          have f28 := fun (q0 : (ieq s2 (isub .i64 (flen k0) 1)) = false) => iaddr_F (e := e_api_Cell) (gOpt_getD (⟨0, 0⟩ : api_Cell) h29 (bnot_mk q0))
          have f31 := u_additiveref40_turns_ok s1 (v27.getD (⟨0, 0⟩ : api_Cell)) (v30.getD (⟨0, 0⟩ : api_Cell))
          by_cases c32 : (bor (ieq s2 (isub .i64 (flen k0) 1)) (u_additiveref40_turns s1 (v27.getD (⟨0, 0⟩ : api_Cell)) (v30.getD (⟨0, 0⟩ : api_Cell)))) = true
          · rw [if_pos c32] at h
            by_cases h33 : fits 8 1 = true
            · rw [if_pos h33] at h
              have f34 := fun H g0 y => @app_nil1 _ _ e_i64 _ s2 8 h33 (by decide) H g0 3 y
              simp only [e_i64] at f34
              cases h36 : fget k0 s2 with
              | none => (rw [h36] at h; cases h)
              | some v37 =>
                simp only [h36] at h
                have f35 := iaddr_F (e := e_api_Cell) h36
                have f38 := fun (q0 : (ieq s2 (isub .i64 (flen k0) 1)) = false) => gOpt_eqD (⟨0, 0⟩ : api_Cell) h26 (bnot_mk q0) h36
                cases h
                show LK env [] 0 [0, 5, 6, 7] c86_L0 (some (t_additiveref40_corners_L0_st k0 _)) = LK env [] 0 [0, 5, 6, 7] c86_L0 (some (t_additiveref40_corners_L0_st k0 _))
                simp only [t_additiveref40_corners_L0_st]
                rw [LK_step]
                rcases tof (ieq s2 (isub .i64 (flen k0) 1)) with a39 | a39
                · simp (maxSteps := 4000000) [c24, a39, f25, f28, f31, f34, f35, e_api_Cell, e_i64, ↓c86_L0_u, c86_0, c86_1, c86_2, c86_3, c86_4, c86_5, c86_6, c86_7, c86_8, c86_10]
                · rcases tof (u_additiveref40_turns s1 (v27.getD (⟨0, 0⟩ : api_Cell)) (v30.getD (⟨0, 0⟩ : api_Cell))) with a40 | a40
                  · have gf38 := f38 (by simp [c24, a39, a40])
                    try simp only [gf38] at f25 f28 f31 f34 f35 c24 a39 a40
                    simp (maxSteps := 4000000) [c24, a39, a40, gf38, f25, f28, f31, f34, f35, e_api_Cell, e_i64, ↓c86_L0_u, c86_0, c86_1, c86_2, c86_3, c86_4, c86_5, c86_6, c86_7, c86_8, c86_10]
                  · simp [c24, a39, a40] at c32
            · rw [if_neg h33] at h; cases h
          · rw [if_neg c32] at h
            rw [Bool.not_eq_true] at c32
            cases h42 : fget k0 s2 with
            | none => (rw [h42] at h; cases h)
            | some v43 =>
              simp only [h42] at h
              have f41 := iaddr_F (e := e_api_Cell) h42
              have f44 := fun (q0 : (ieq s2 (isub .i64 (flen k0) 1)) = false) => gOpt_eqD (⟨0, 0⟩ : api_Cell) h26 (bnot_mk q0) h42
              cases h
              show LK env [] 0 [0, 5, 6, 7] c86_L0 (some (t_additiveref40_corners_L0_st k0 _)) = LK env [] 0 [0, 5, 6, 7] c86_L0 (some (t_additiveref40_corners_L0_st k0 _))
              simp only [t_additiveref40_corners_L0_st]
              rw [LK_step]
              rcases tof (ieq s2 (isub .i64 (flen k0) 1)) with a45 | a45
              · simp [c24, a45] at c32
              · rcases tof (u_additiveref40_turns s1 (v27.getD (⟨0, 0⟩ : api_Cell)) (v30.getD (⟨0, 0⟩ : api_Cell))) with a46 | a46
                · simp [c24, a45, a46] at c32
                · have gf44 := f44 (by simp [c24, a45, a46])
                  try simp only [gf44] at f25 f28 f31 f41 c24 a45 a46
                  simp (maxSteps := 4000000) [c24, a45, a46, gf44, f25, f28, f31, f41, e_api_Cell, e_i64, ↓c86_L0_u, c86_0, c86_1, c86_2, c86_3, c86_4, c86_5, c86_6, c86_7, c86_8, c86_10]
    · rw [if_neg c24] at h
      rw [Bool.not_eq_true] at c24
      cases h
      show LK env [] 0 [0, 5, 6, 7] c86_L0 (some (t_additiveref40_corners_L0_st k0 _)) = some (t_additiveref40_corners_L0_out k0 _)
      simp only [t_additiveref40_corners_L0_st, t_additiveref40_corners_L0_out]
      rw [LK_step]
      simp (maxSteps := 4000000) [c24, e_api_Cell, e_i64, ↓c86_L0_u, c86_0, c86_1, c86_2, c86_3, c86_4, c86_5, c86_6, c86_7, c86_8, c86_10]
  | own s0l =>
    try dsimp only at h
    by_cases c47 : (ilt s2 (flen k0)) = true
    · rw [if_pos c47] at h
      cases h49 : gOpt (bnot (ieq s2 (isub .i64 (flen k0) 1))) (fget k0 s2) with
      | none => (rw [h49] at h; cases h)
      | some v50 =>
        simp only [h49] at h
        have f48 := fun (q0 : (ieq s2 (isub .i64 (flen k0) 1)) = false) => iaddr_F (e := e_api_Cell) (gOpt_getD (⟨0, 0⟩ : api_Cell) h49 (bnot_mk q0))
        cases h52 : gOpt (bnot (ieq s2 (isub .i64 (flen k0) 1))) (fget k0 (iadd .i64 s2 1)) with
        | none => (rw [h52] at h; cases h)
        | some v53 =>
          simp only [h52] at h
          have f51 := fun (q0 : (ieq s2 (isub .i64 (flen k0) 1)) = false) => iaddr_F (e := e_api_Cell) (gOpt_getD (⟨0, 0⟩ : api_Cell) h52 (bnot_mk q0))
          have f54 := u_additiveref40_turns_ok s1 (v50.getD (⟨0, 0⟩ : api_Cell)) (v53.getD (⟨0, 0⟩ : api_Cell))
          by_cases c55 : (bor (ieq s2 (isub .i64 (flen k0) 1)) (u_additiveref40_turns s1 (v50.getD (⟨0, 0⟩ : api_Cell)) (v53.getD (⟨0, 0⟩ : api_Cell)))) = true
          · rw [if_pos c55] at h
            by_cases h56 : fits 8 (olen s0l + 1) = true
            · rw [if_pos h56] at h
              have f57 := fun g0 H y => @app_one _ _ e_i64 _ s0l s2 8 h56 (by decide) g0 H 5 0 3 y
              simp only [e_i64] at f57
              cases h59 : fget k0 s2 with
              | none => (rw [h59] at h; cases h)
              | some v60 =>
                simp only [h59] at h
                have f58 := iaddr_F (e := e_api_Cell) h59
                have f61 := fun (q0 : (ieq s2 (isub .i64 (flen k0) 1)) = false) => gOpt_eqD (⟨0, 0⟩ : api_Cell) h49 (bnot_mk q0) h59
                cases h
                show LK env [] 0 [0, 5, 6, 7] c86_L0 (some (t_additiveref40_corners_L0_st k0 _)) = LK env [] 0 [0, 5, 6, 7] c86_L0 (some (t_additiveref40_corners_L0_st k0 _))
                simp only [t_additiveref40_corners_L0_st]
                rw [LK_step]
                rcases tof (ieq s2 (isub .i64 (flen k0) 1)) with a62 | a62
                · simp (maxSteps := 4000000) [c47, a62, f48, f51, f54, f57, f58, e_api_Cell, e_i64, ↓c86_L0_u, c86_0, c86_1, c86_2, c86_3, c86_4, c86_5, c86_6, c86_7, c86_8, c86_10]
                · rcases tof (u_additiveref40_turns s1 (v50.getD (⟨0, 0⟩ : api_Cell)) (v53.getD (⟨0, 0⟩ : api_Cell))) with a63 | a63
                  · have gf61 := f61 (by simp [c47, a62, a63])
                    try simp only [gf61] at f48 f51 f54 f57 f58 c47 a62 a63
                    simp (maxSteps := 4000000) [c47, a62, a63, gf61, f48, f51, f54, f57, f58, e_api_Cell, e_i64, ↓c86_L0_u, c86_0, c86_1, c86_2, c86_3, c86_4, c86_5, c86_6, c86_7, c86_8, c86_10]
                  · simp [c47, a62, a63] at c55
            · rw [if_neg h56] at h; cases h
          · rw [if_neg c55] at h
            rw [Bool.not_eq_true] at c55
            cases h65 : fget k0 s2 with
            | none => (rw [h65] at h; cases h)
            | some v66 =>
              simp only [h65] at h
              have f64 := iaddr_F (e := e_api_Cell) h65
              have f67 := fun (q0 : (ieq s2 (isub .i64 (flen k0) 1)) = false) => gOpt_eqD (⟨0, 0⟩ : api_Cell) h49 (bnot_mk q0) h65
              cases h
              show LK env [] 0 [0, 5, 6, 7] c86_L0 (some (t_additiveref40_corners_L0_st k0 _)) = LK env [] 0 [0, 5, 6, 7] c86_L0 (some (t_additiveref40_corners_L0_st k0 _))
              simp only [t_additiveref40_corners_L0_st]
              rw [LK_step]
              rcases tof (ieq s2 (isub .i64 (flen k0) 1)) with a68 | a68
              · simp [c47, a68] at c55
              · rcases tof (u_additiveref40_turns s1 (v50.getD (⟨0, 0⟩ : api_Cell)) (v53.getD (⟨0, 0⟩ : api_Cell))) with a69 | a69
                · simp [c47, a68, a69] at c55
                · have gf67 := f67 (by simp [c47, a68, a69])
                  try simp only [gf67] at f48 f51 f54 f64 c47 a68 a69
                  simp (maxSteps := 4000000) [c47, a68, a69, gf67, f48, f51, f54, f64, e_api_Cell, e_i64, ↓c86_L0_u, c86_0, c86_1, c86_2, c86_3, c86_4, c86_5, c86_6, c86_7, c86_8, c86_10]
    · rw [if_neg c47] at h
      rw [Bool.not_eq_true] at c47
      cases h
      show LK env [] 0 [0, 5, 6, 7] c86_L0 (some (t_additiveref40_corners_L0_st k0 _)) = some (t_additiveref40_corners_L0_out k0 _)
      simp only [t_additiveref40_corners_L0_st, t_additiveref40_corners_L0_out]
      rw [LK_step]
      simp (maxSteps := 4000000) [c47, e_api_Cell, e_i64, ↓c86_L0_u, c86_0, c86_1, c86_2, c86_3, c86_4, c86_5, c86_6, c86_7, c86_8, c86_10]) bigN s r h
def t_additiveref40_corners (p0 : (FS api_Cell)) (p1 : api_Cell) : Option (FS Int) := (match loopT (t_additiveref40_corners_L0 p0) bigN (.nil, p1, 0) with
 | none => none
 | some v71 => (match v71 with
 | .nil => some (FS.nil : (FS Int))
 | .own l74 => some (FS.lst l74)))
theorem t_additiveref40_corners_ok {p0 : (FS api_Cell)} {p1 : api_Cell} {r : (FS Int)} (h : t_additiveref40_corners p0 p1 = some r) : FC env 86 [encF e_api_Cell p0, .agg [.int .i64 p1.X, .int .i64 p1.Y]] none = some (encF e_i64 r, fun _ => none) := by
  unfold t_additiveref40_corners at h
  cases h70 : loopT (t_additiveref40_corners_L0 p0) bigN (.nil, p1, 0) with
  | none => (rw [h70] at h; cases h)
  | some v71 =>
    simp only [h70] at h
    have f72 := t_additiveref40_corners_L0_ok h70
    simp only [t_additiveref40_corners_L0_st, t_additiveref40_corners_L0_out] at f72
    cases q73 : v71 with
    | nil =>
      simp only [q73] at h f72
      cases h
      refine FC_pure (lf := lf86) rfl rfl rfl ?_
      simp only [lf86, lc86, c86_0, c86_1, c86_2, c86_3, c86_4, c86_5, c86_6, c86_7, c86_8, c86_10]
      simp (maxSteps := 4000000) [f72, e_api_Cell, e_i64, ↓c86_L0_u]
    | own l74 =>
      simp only [q73] at h f72
      cases h
      refine FC_pure (lf := lf86) rfl rfl rfl ?_
      simp only [lf86, lc86, c86_0, c86_1, c86_2, c86_3, c86_4, c86_5, c86_6, c86_7, c86_8, c86_10]
      simp (maxSteps := 4000000) [f72, e_api_Cell, e_i64, ↓c86_L0_u, snap_arrD (e := e_i64) (el := 3) (fz := false)]

/-! emit.Corners -/
theorem c44_L0_u (Γ : Env) (ps : List Nat) (σ : St) : EC Γ ps 0 c44_L0 σ = EC Γ ps 0 (.seq (.reg false c44_5) (.seq (.cond (.t 21) .skip (.seq (.trim [5]) (.exit 0))) (.seq (.blk 1 (.seq (.reg false c44_6) (.reg false c44_7))) (.reg false c44_8)))) σ := rfl
def t_emit_Corners_L0 (k0 : (FS api_Cell)) (k1 : (FS Int)) (k2 : Int) (s : ((OS api_Cell) × Int)) : Option (LR ((OS api_Cell) × Int) (OS api_Cell)) := match s with
 | (s0, s1) => (match s0 with
 | .nil => (if (ilt s1 k2) = true then (match fget k1 s1 with
 | none => none
 | some v23 => (match fget k0 v23 with
 | none => none
 | some v26 => (if fits 16 1 = true then some (.nx ((.own (osnoc ([] : List api_Cell) v26)), (iadd .i64 s1 1))) else none)))
 else some (.dn .nil))
 | .own s0l => (if (ilt s1 k2) = true then (match fget k1 s1 with
 | none => none
 | some v32 => (match fget k0 v32 with
 | none => none
 | some v35 => (if fits 16 (olen s0l + 1) = true then some (.nx ((.own (osnoc s0l v35)), (iadd .i64 s1 1))) else none)))
 else some (.dn (.own s0l))))
def t_emit_Corners_L0_st (k0 : (FS api_Cell)) (k1 : (FS Int)) (k2 : Int) (s : ((OS api_Cell) × Int)) : St := match s with
 | (s0, s1) => (match s0 with
 | .nil => ⟨fr [(0, encF e_api_Cell k0), (5, .nils), (18, encF e_i64 k1), (19, .int .i64 k2), (20, .int .i64 s1)], hl []⟩
 | .own s0l => ⟨fr [(0, encF e_api_Cell k0), (5, .arr 5 0 0 s0l.length), (18, encF e_i64 k1), (19, .int .i64 k2), (20, .int .i64 s1)], hl [(5, .arr 0 2 26 (cellsE e_api_Cell s0l) false)]⟩)
def t_emit_Corners_L0_out (k0 : (FS api_Cell)) (k1 : (FS Int)) (k2 : Int) (x : (OS api_Cell)) : LE × St := (match x with
 | .nil => (.exit 0, ⟨fr [(5, .nils)], hl []⟩)
 | .own l0 => (.exit 0, ⟨fr [(5, .arr 5 0 0 l0.length)], hl [(5, .arr 0 2 26 (cellsE e_api_Cell l0) false)]⟩))
theorem t_emit_Corners_L0_ok {k0 : (FS api_Cell)} {k1 : (FS Int)} {k2 : Int} {s : ((OS api_Cell) × Int)} {r : (OS api_Cell)} (h : loopT (t_emit_Corners_L0 k0 k1 k2) bigN s = some r) : LK env [] 0 [0, 5, 18, 19, 20] c44_L0 (some (t_emit_Corners_L0_st k0 k1 k2 s)) = some (t_emit_Corners_L0_out k0 k1 k2 r) := loop_walk (st := t_emit_Corners_L0_st k0 k1 k2) (out := t_emit_Corners_L0_out k0 k1 k2) (by
  clear h s r
  rintro ⟨s0, s1⟩ x h
  simp only [t_emit_Corners_L0] at h
  cases s0 with
  | nil =>
    try dsimp only at h
    by_cases c20 : (ilt s1 k2) = true
    · rw [if_pos c20] at h
      cases h22 : fget k1 s1 with
      | none => (rw [h22] at h; cases h)
      | some v23 =>
        simp only [h22] at h
        have f21 := iaddr_F (e := e_i64) h22
        cases h25 : fget k0 v23 with
        | none => (rw [h25] at h; cases h)
        | some v26 =>
          simp only [h25] at h
          have f24 := iaddr_F (e := e_api_Cell) h25
          by_cases h27 : fits 16 1 = true
          · rw [if_pos h27] at h
            have f28 := fun H g0 y => @app_nil1 _ _ e_api_Cell _ v26 16 h27 (by decide) H g0 26 y
            simp only [e_api_Cell] at f28
            cases h
            show LK env [] 0 [0, 5, 18, 19, 20] c44_L0 (some (t_emit_Corners_L0_st k0 k1 k2 _)) = LK env [] 0 [0, 5, 18, 19, 20] c44_L0 (some (t_emit_Corners_L0_st k0 k1 k2 _))
            simp only [t_emit_Corners_L0_st]
            rw [LK_step]
            simp (maxSteps := 4000000) [c20, f21, f24, f28, e_api_Cell, e_i64, ↓c44_L0_u, c44_0, c44_1, c44_2, c44_3, c44_4, c44_5, c44_6, c44_7, c44_8, c44_10]
          · rw [if_neg h27] at h; cases h
    · rw [if_neg c20] at h
      rw [Bool.not_eq_true] at c20
      cases h
      show LK env [] 0 [0, 5, 18, 19, 20] c44_L0 (some (t_emit_Corners_L0_st k0 k1 k2 _)) = some (t_emit_Corners_L0_out k0 k1 k2 _)
      simp only [t_emit_Corners_L0_st, t_emit_Corners_L0_out]
      rw [LK_step]
      simp (maxSteps := 4000000) [c20, e_api_Cell, e_i64, ↓c44_L0_u, c44_0, c44_1, c44_2, c44_3, c44_4, c44_5, c44_6, c44_7, c44_8, c44_10]
  | own s0l =>
    try dsimp only at h
    by_cases c29 : (ilt s1 k2) = true
    · rw [if_pos c29] at h
      cases h31 : fget k1 s1 with
      | none => (rw [h31] at h; cases h)
      | some v32 =>
        simp only [h31] at h
        have f30 := iaddr_F (e := e_i64) h31
        cases h34 : fget k0 v32 with
        | none => (rw [h34] at h; cases h)
        | some v35 =>
          simp only [h34] at h
          have f33 := iaddr_F (e := e_api_Cell) h34
          by_cases h36 : fits 16 (olen s0l + 1) = true
          · rw [if_pos h36] at h
            have f37 := fun g0 H y => @app_one _ _ e_api_Cell _ s0l v35 16 h36 (by decide) g0 H 5 0 26 y
            simp only [e_api_Cell] at f37
            cases h
            show LK env [] 0 [0, 5, 18, 19, 20] c44_L0 (some (t_emit_Corners_L0_st k0 k1 k2 _)) = LK env [] 0 [0, 5, 18, 19, 20] c44_L0 (some (t_emit_Corners_L0_st k0 k1 k2 _))
            simp only [t_emit_Corners_L0_st]
            rw [LK_step]
            simp (maxSteps := 4000000) [c29, f30, f33, f37, e_api_Cell, e_i64, ↓c44_L0_u, c44_0, c44_1, c44_2, c44_3, c44_4, c44_5, c44_6, c44_7, c44_8, c44_10]
          · rw [if_neg h36] at h; cases h
    · rw [if_neg c29] at h
      rw [Bool.not_eq_true] at c29
      cases h
      show LK env [] 0 [0, 5, 18, 19, 20] c44_L0 (some (t_emit_Corners_L0_st k0 k1 k2 _)) = some (t_emit_Corners_L0_out k0 k1 k2 _)
      simp only [t_emit_Corners_L0_st, t_emit_Corners_L0_out]
      rw [LK_step]
      simp (maxSteps := 4000000) [c29, e_api_Cell, e_i64, ↓c44_L0_u, c44_0, c44_1, c44_2, c44_3, c44_4, c44_5, c44_6, c44_7, c44_8, c44_10]) bigN s r h
def t_emit_Corners (p0 : (FS api_Cell)) (p1 : api_Cell) : Option (FS api_Cell) := (match gOpt (bnot (bnot (u_emit_onGrid p1))) (t_emit_inside p0) with
 | none => none
 | some v4 => (if (bor (bnot (u_emit_onGrid p1)) (bnot (v4.getD false))) = true then some (FS.nil : (FS api_Cell))
 else (match t_emit_turns p0 p1 with
 | none => none
 | some v10 => (match loopT (t_emit_Corners_L0 p0 v10 (flen v10)) bigN (.nil, 0) with
 | none => none
 | some v39 => (match v39 with
 | .nil => some (FS.nil : (FS api_Cell))
 | .own l42 => some (FS.lst l42))))))
theorem t_emit_Corners_ok {p0 : (FS api_Cell)} {p1 : api_Cell} {r : (FS api_Cell)} (h : t_emit_Corners p0 p1 = some r) : FC env 44 [encF e_api_Cell p0, .agg [.int .i64 p1.X, .int .i64 p1.Y]] none = some (encF e_api_Cell r, fun _ => none) := by
  unfold t_emit_Corners at h
  have f1 := u_emit_onGrid_ok p1
  cases h3 : gOpt (bnot (bnot (u_emit_onGrid p1))) (t_emit_inside p0) with
  | none => (rw [h3] at h; cases h)
  | some v4 =>
    simp only [h3] at h
    have f2 := fun (q0 : (bnot (u_emit_onGrid p1)) = false) => t_emit_inside_ok (gOpt_getD false h3 (bnot_mk q0))
    by_cases c5 : (bor (bnot (u_emit_onGrid p1)) (bnot (v4.getD false))) = true
    · rw [if_pos c5] at h
      cases h
      refine FC_pure (lf := lf44) rfl rfl rfl ?_
      simp only [lf44, lc44, c44_0, c44_1, c44_2, c44_3, c44_4, c44_5, c44_6, c44_7, c44_8, c44_10]
      rcases tof (u_emit_onGrid p1) with a6 | a6
      · rcases tof (v4.getD false) with a7 | a7
        · simp [a6, a7] at c5
        · simp (maxSteps := 4000000) [a6, a7, f1, f2, e_api_Cell, e_i64, ↓c44_L0_u]
      · simp (maxSteps := 4000000) [a6, f1, f2, e_api_Cell, e_i64, ↓c44_L0_u]
    · rw [if_neg c5] at h
      rw [Bool.not_eq_true] at c5
      cases h9 : t_emit_turns p0 p1 with
      | none => (rw [h9] at h; cases h)
      | some v10 =>
        simp only [h9] at h
        have f8 := t_emit_turns_ok h9
        cases h38 : loopT (t_emit_Corners_L0 p0 v10 (flen v10)) bigN (.nil, 0) with
        | none => (rw [h38] at h; cases h)
        | some v39 =>
          simp only [h38] at h
          have f40 := t_emit_Corners_L0_ok h38
          simp only [t_emit_Corners_L0_st, t_emit_Corners_L0_out] at f40
          cases q41 : v39 with
          | nil =>
            simp only [q41] at h f40
            cases h
            refine FC_pure (lf := lf44) rfl rfl rfl ?_
            simp only [lf44, lc44, c44_0, c44_1, c44_2, c44_3, c44_4, c44_5, c44_6, c44_7, c44_8, c44_10]
            rcases tof (u_emit_onGrid p1) with a43 | a43
            · rcases tof (v4.getD false) with a44 | a44
              · simp (maxSteps := 4000000) [a43, a44, f1, f2, f8, f40, e_api_Cell, e_i64, ↓c44_L0_u]
              · simp [a43, a44] at c5
            · simp [a43] at c5
          | own l42 =>
            simp only [q41] at h f40
            cases h
            refine FC_pure (lf := lf44) rfl rfl rfl ?_
            simp only [lf44, lc44, c44_0, c44_1, c44_2, c44_3, c44_4, c44_5, c44_6, c44_7, c44_8, c44_10]
            rcases tof (u_emit_onGrid p1) with a45 | a45
            · rcases tof (v4.getD false) with a46 | a46
              · simp (maxSteps := 4000000) [a45, a46, f1, f2, f8, f40, e_api_Cell, e_i64, ↓c44_L0_u, snap_arrD (e := e_api_Cell) (el := 26) (fz := false)]
              · simp [a45, a46] at c5
            · simp [a45] at c5

/-! additiveref40.Corners -/
theorem c45_L0_u (Γ : Env) (ps : List Nat) (σ : St) : EC Γ ps 0 c45_L0 σ = EC Γ ps 0 (.seq (.seq (.reg false c45_4) (.cond (.t 15) .skip (.seq (.trim [0, 3]) (.exit 0)))) (.seq (.blk 1 (.seq (.reg false c45_5) (.cond (.t 23) (.seq (.reg false c45_6) (.seq (.trim [4]) .ret)) .skip))) (.reg false c45_7))) σ := rfl
theorem c45_L1_u (Γ : Env) (ps : List Nat) (σ : St) : EC Γ ps 0 c45_L1 σ = EC Γ ps 0 (.seq (.seq (.reg false c45_12) (.cond (.t 30) .skip (.seq (.trim [7]) (.exit 2)))) (.seq (.blk 3 (.reg false c45_13)) (.reg false c45_14))) σ := rfl
def t_additiveref40_Corners_L0 (k0 : (FS api_Cell)) (k1 : api_Cell) (s : Int) : Option (LR Int ((FS api_Cell) ⊕ Unit)) := match s with
 | s0 => (if (ilt s0 (flen k0)) = true then (match fget k0 s0 with
 | none => none
 | some v7 => (if (bnot (u_additiveref40_ok v7)) = true then some (.dn (.inl (FS.nil : (FS api_Cell))))
 else some (.nx (iadd .i64 s0 1))))
 else some (.dn (.inr ())))
def t_additiveref40_Corners_L0_st (k0 : (FS api_Cell)) (k1 : api_Cell) (s : Int) : St := match s with
 | s0 => ⟨fr [(0, encF e_api_Cell k0), (3, .ptr 3 0 0), (5, .int .i64 s0)], hl [(3, .box 0 [.int .i64 k1.X, .int .i64 k1.Y])]⟩
def t_additiveref40_Corners_L0_out (k0 : (FS api_Cell)) (k1 : api_Cell) (x : ((FS api_Cell) ⊕ Unit)) : LE × St := match x with
 | .inl x => (.ret, ⟨fr [(4, encF e_api_Cell x)], hl []⟩)
 | .inr x => (.exit 0, ⟨fr [(0, encF e_api_Cell k0), (3, .ptr 3 0 0)], hl [(3, .box 0 [.int .i64 k1.X, .int .i64 k1.Y])]⟩)
theorem t_additiveref40_Corners_L0_ok {k0 : (FS api_Cell)} {k1 : api_Cell} {s : Int} {r : ((FS api_Cell) ⊕ Unit)} (h : loopT (t_additiveref40_Corners_L0 k0 k1) bigN s = some r) : LK env [] 0 [0, 3, 5] c45_L0 (some (t_additiveref40_Corners_L0_st k0 k1 s)) = some (t_additiveref40_Corners_L0_out k0 k1 r) := loop_walk (st := t_additiveref40_Corners_L0_st k0 k1) (out := t_additiveref40_Corners_L0_out k0 k1) (by
  clear h s r
  rintro s0 x h
  simp only [t_additiveref40_Corners_L0] at h
  by_cases c4 : (ilt s0 (flen k0)) = true
  · rw [if_pos c4] at h
    cases h6 : fget k0 s0 with
    | none => (rw [h6] at h; cases h)
    | some v7 =>
      simp only [h6] at h
      have f5 := iaddr_F (e := e_api_Cell) h6
      have f8 := u_additiveref40_ok_ok v7
      by_cases c9 : (bnot (u_additiveref40_ok v7)) = true
      · rw [if_pos c9] at h
        cases h
        show LK env [] 0 [0, 3, 5] c45_L0 (some (t_additiveref40_Corners_L0_st k0 k1 _)) = some (t_additiveref40_Corners_L0_out k0 k1 _)
        simp only [t_additiveref40_Corners_L0_st, t_additiveref40_Corners_L0_out]
        rw [LK_step]
        rcases tof (u_additiveref40_ok v7) with a11 | a11
        · simp [c4, a11] at c9
        · simp (maxSteps := 4000000) [c4, a11, f5, f8, e_api_Cell, e_i64, ↓c45_L0_u, ↓c45_L1_u, c45_0, c45_1, c45_2, c45_3, c45_4, c45_5, c45_6, c45_7, c45_9, c45_10, c45_11, c45_12, c45_13, c45_14, c45_16]
      · rw [if_neg c9] at h
        rw [Bool.not_eq_true] at c9
        cases h
        show LK env [] 0 [0, 3, 5] c45_L0 (some (t_additiveref40_Corners_L0_st k0 k1 _)) = LK env [] 0 [0, 3, 5] c45_L0 (some (t_additiveref40_Corners_L0_st k0 k1 _))
        simp only [t_additiveref40_Corners_L0_st]
        rw [LK_step]
        rcases tof (u_additiveref40_ok v7) with a10 | a10
        · simp (maxSteps := 4000000) [c4, a10, f5, f8, e_api_Cell, e_i64, ↓c45_L0_u, ↓c45_L1_u, c45_0, c45_1, c45_2, c45_3, c45_4, c45_5, c45_6, c45_7, c45_9, c45_10, c45_11, c45_12, c45_13, c45_14, c45_16]
        · simp [c4, a10] at c9
  · rw [if_neg c4] at h
    rw [Bool.not_eq_true] at c4
    cases h
    show LK env [] 0 [0, 3, 5] c45_L0 (some (t_additiveref40_Corners_L0_st k0 k1 _)) = some (t_additiveref40_Corners_L0_out k0 k1 _)
    simp only [t_additiveref40_Corners_L0_st, t_additiveref40_Corners_L0_out]
    rw [LK_step]
    simp (maxSteps := 4000000) [c4, e_api_Cell, e_i64, ↓c45_L0_u, ↓c45_L1_u, c45_0, c45_1, c45_2, c45_3, c45_4, c45_5, c45_6, c45_7, c45_9, c45_10, c45_11, c45_12, c45_13, c45_14, c45_16]) bigN s r h
def t_additiveref40_Corners_L1 (k0 : (FS api_Cell)) (k1 : (FS Int)) (s : ((OS api_Cell) × Int)) : Option (LR ((OS api_Cell) × Int) (OS api_Cell)) := match s with
 | (s0, s1) => (match s0 with
 | .nil => (if (ilt s1 (flen k1)) = true then (match fget k1 s1 with
 | none => none
 | some v31 => (match fget k0 v31 with
 | none => none
 | some v34 => (if fits 16 1 = true then some (.nx ((.own (osnoc ([] : List api_Cell) v34)), (iadd .i64 s1 1))) else none)))
 else some (.dn .nil))
 | .own s0l => (if (ilt s1 (flen k1)) = true then (match fget k1 s1 with
 | none => none
 | some v40 => (match fget k0 v40 with
 | none => none
 | some v43 => (if fits 16 (olen s0l + 1) = true then some (.nx ((.own (osnoc s0l v43)), (iadd .i64 s1 1))) else none)))
 else some (.dn (.own s0l))))
def t_additiveref40_Corners_L1_st (k0 : (FS api_Cell)) (k1 : (FS Int)) (s : ((OS api_Cell) × Int)) : St := match s with
 | (s0, s1) => (match s0 with
 | .nil => ⟨fr [(0, encF e_api_Cell k0), (6, encF e_i64 k1), (7, .nils), (8, .int .i64 s1)], hl []⟩
 | .own s0l => ⟨fr [(0, encF e_api_Cell k0), (6, encF e_i64 k1), (7, .arr 7 0 0 s0l.length), (8, .int .i64 s1)], hl [(7, .arr 0 2 26 (cellsE e_api_Cell s0l) false)]⟩)
def t_additiveref40_Corners_L1_out (k0 : (FS api_Cell)) (k1 : (FS Int)) (x : (OS api_Cell)) : LE × St := (match x with
 | .nil => (.exit 2, ⟨fr [(7, .nils)], hl []⟩)
 | .own l0 => (.exit 2, ⟨fr [(7, .arr 7 0 0 l0.length)], hl [(7, .arr 0 2 26 (cellsE e_api_Cell l0) false)]⟩))
theorem t_additiveref40_Corners_L1_ok {k0 : (FS api_Cell)} {k1 : (FS Int)} {s : ((OS api_Cell) × Int)} {r : (OS api_Cell)} (h : loopT (t_additiveref40_Corners_L1 k0 k1) bigN s = some r) : LK env [] 0 [0, 6, 7, 8] c45_L1 (some (t_additiveref40_Corners_L1_st k0 k1 s)) = some (t_additiveref40_Corners_L1_out k0 k1 r) := loop_walk (st := t_additiveref40_Corners_L1_st k0 k1) (out := t_additiveref40_Corners_L1_out k0 k1) (by
  clear h s r
  rintro ⟨s0, s1⟩ x h
  simp only [t_additiveref40_Corners_L1] at h
  cases s0 with
  | nil =>
    try dsimp only at h
    by_cases c28 : (ilt s1 (flen k1)) = true
    · rw [if_pos c28] at h
      cases h30 : fget k1 s1 with
      | none => (rw [h30] at h; cases h)
      | some v31 =>
        simp only [h30] at h
        have f29 := iaddr_F (e := e_i64) h30
        cases h33 : fget k0 v31 with
        | none => (rw [h33] at h; cases h)
        | some v34 =>
          simp only [h33] at h
          have f32 := iaddr_F (e := e_api_Cell) h33
          by_cases h35 : fits 16 1 = true
          · rw [if_pos h35] at h
            have f36 := fun H g0 y => @app_nil1 _ _ e_api_Cell _ v34 16 h35 (by decide) H g0 26 y
            simp only [e_api_Cell] at f36
            cases h
            show LK env [] 0 [0, 6, 7, 8] c45_L1 (some (t_additiveref40_Corners_L1_st k0 k1 _)) = LK env [] 0 [0, 6, 7, 8] c45_L1 (some (t_additiveref40_Corners_L1_st k0 k1 _))
            simp only [t_additiveref40_Corners_L1_st]
            rw [LK_step]
            simp (maxSteps := 4000000) [c28, f29, f32, f36, e_api_Cell, e_i64, ↓c45_L0_u, ↓c45_L1_u, c45_0, c45_1, c45_2, c45_3, c45_4, c45_5, c45_6, c45_7, c45_9, c45_10, c45_11, c45_12, c45_13, c45_14, c45_16]
          · rw [if_neg h35] at h; cases h
    · rw [if_neg c28] at h
      rw [Bool.not_eq_true] at c28
      cases h
      show LK env [] 0 [0, 6, 7, 8] c45_L1 (some (t_additiveref40_Corners_L1_st k0 k1 _)) = some (t_additiveref40_Corners_L1_out k0 k1 _)
      simp only [t_additiveref40_Corners_L1_st, t_additiveref40_Corners_L1_out]
      rw [LK_step]
      simp (maxSteps := 4000000) [c28, e_api_Cell, e_i64, ↓c45_L0_u, ↓c45_L1_u, c45_0, c45_1, c45_2, c45_3, c45_4, c45_5, c45_6, c45_7, c45_9, c45_10, c45_11, c45_12, c45_13, c45_14, c45_16]
  | own s0l =>
    try dsimp only at h
    by_cases c37 : (ilt s1 (flen k1)) = true
    · rw [if_pos c37] at h
      cases h39 : fget k1 s1 with
      | none => (rw [h39] at h; cases h)
      | some v40 =>
        simp only [h39] at h
        have f38 := iaddr_F (e := e_i64) h39
        cases h42 : fget k0 v40 with
        | none => (rw [h42] at h; cases h)
        | some v43 =>
          simp only [h42] at h
          have f41 := iaddr_F (e := e_api_Cell) h42
          by_cases h44 : fits 16 (olen s0l + 1) = true
          · rw [if_pos h44] at h
            have f45 := fun g0 H y => @app_one _ _ e_api_Cell _ s0l v43 16 h44 (by decide) g0 H 7 0 26 y
            simp only [e_api_Cell] at f45
            cases h
            show LK env [] 0 [0, 6, 7, 8] c45_L1 (some (t_additiveref40_Corners_L1_st k0 k1 _)) = LK env [] 0 [0, 6, 7, 8] c45_L1 (some (t_additiveref40_Corners_L1_st k0 k1 _))
            simp only [t_additiveref40_Corners_L1_st]
            rw [LK_step]
            simp (maxSteps := 4000000) [c37, f38, f41, f45, e_api_Cell, e_i64, ↓c45_L0_u, ↓c45_L1_u, c45_0, c45_1, c45_2, c45_3, c45_4, c45_5, c45_6, c45_7, c45_9, c45_10, c45_11, c45_12, c45_13, c45_14, c45_16]
          · rw [if_neg h44] at h; cases h
    · rw [if_neg c37] at h
      rw [Bool.not_eq_true] at c37
      cases h
      show LK env [] 0 [0, 6, 7, 8] c45_L1 (some (t_additiveref40_Corners_L1_st k0 k1 _)) = some (t_additiveref40_Corners_L1_out k0 k1 _)
      simp only [t_additiveref40_Corners_L1_st, t_additiveref40_Corners_L1_out]
      rw [LK_step]
      simp (maxSteps := 4000000) [c37, e_api_Cell, e_i64, ↓c45_L0_u, ↓c45_L1_u, c45_0, c45_1, c45_2, c45_3, c45_4, c45_5, c45_6, c45_7, c45_9, c45_10, c45_11, c45_12, c45_13, c45_14, c45_16]) bigN s r h
def t_additiveref40_Corners (p0 : (FS api_Cell)) (p1 : api_Cell) : Option (FS api_Cell) := (if (bnot (u_additiveref40_ok p1)) = true then some (FS.nil : (FS api_Cell))
 else (match loopT (t_additiveref40_Corners_L0 p0 p1) bigN 0 with
 | none => none
 | some v13 => (match v13 with
 | .inl v13x => some v13x
 | .inr v13x => (match t_additiveref40_corners p0 p1 with
 | none => none
 | some v18 => (match loopT (t_additiveref40_Corners_L1 p0 v18) bigN (.nil, 0) with
 | none => none
 | some v47 => (match v47 with
 | .nil => some (FS.nil : (FS api_Cell))
 | .own l50 => some (FS.lst l50)))))))
theorem t_additiveref40_Corners_ok {p0 : (FS api_Cell)} {p1 : api_Cell} {r : (FS api_Cell)} (h : t_additiveref40_Corners p0 p1 = some r) : FC env 45 [encF e_api_Cell p0, .agg [.int .i64 p1.X, .int .i64 p1.Y]] none = some (encF e_api_Cell r, fun _ => none) := by
  unfold t_additiveref40_Corners at h
  have f1 := u_additiveref40_ok_ok p1
  by_cases c2 : (bnot (u_additiveref40_ok p1)) = true
  · rw [if_pos c2] at h
    cases h
    refine FC_pure (lf := lf45) rfl rfl rfl ?_
    simp only [lf45, lc45, c45_0, c45_1, c45_2, c45_3, c45_4, c45_5, c45_6, c45_7, c45_9, c45_10, c45_11, c45_12, c45_13, c45_14, c45_16]
    rcases tof (u_additiveref40_ok p1) with a3 | a3
    · simp [a3] at c2
    · simp (maxSteps := 4000000) [a3, f1, e_api_Cell, e_i64, ↓c45_L0_u, ↓c45_L1_u]
  · rw [if_neg c2] at h
    rw [Bool.not_eq_true] at c2
    cases h12 : loopT (t_additiveref40_Corners_L0 p0 p1) bigN 0 with
    | none => (rw [h12] at h; cases h)
    | some v13 =>
      simp only [h12] at h
      have f14 := t_additiveref40_Corners_L0_ok h12
      cases v13 with
      | inl v13x =>
        simp only [t_additiveref40_Corners_L0_st, t_additiveref40_Corners_L0_out] at h f14
        cases h
        refine FC_pure (lf := lf45) rfl rfl rfl ?_
        simp only [lf45, lc45, c45_0, c45_1, c45_2, c45_3, c45_4, c45_5, c45_6, c45_7, c45_9, c45_10, c45_11, c45_12, c45_13, c45_14, c45_16]
        rcases tof (u_additiveref40_ok p1) with a15 | a15
        · simp (maxSteps := 4000000) [a15, f1, f14, e_api_Cell, e_i64, ↓c45_L0_u, ↓c45_L1_u]
        · simp [a15] at c2
      | inr v13x =>
        simp only [t_additiveref40_Corners_L0_st, t_additiveref40_Corners_L0_out] at h f14
        cases h17 : t_additiveref40_corners p0 p1 with
        | none => (rw [h17] at h; cases h)
        | some v18 =>
          simp only [h17] at h
          have f16 := t_additiveref40_corners_ok h17
          cases h46 : loopT (t_additiveref40_Corners_L1 p0 v18) bigN (.nil, 0) with
          | none => (rw [h46] at h; cases h)
          | some v47 =>
            simp only [h46] at h
            have f48 := t_additiveref40_Corners_L1_ok h46
            simp only [t_additiveref40_Corners_L1_st, t_additiveref40_Corners_L1_out] at f48
            cases q49 : v47 with
            | nil =>
              simp only [q49] at h f48
              cases h
              refine FC_pure (lf := lf45) rfl rfl rfl ?_
              simp only [lf45, lc45, c45_0, c45_1, c45_2, c45_3, c45_4, c45_5, c45_6, c45_7, c45_9, c45_10, c45_11, c45_12, c45_13, c45_14, c45_16]
              rcases tof (u_additiveref40_ok p1) with a51 | a51
              · simp (maxSteps := 4000000) [a51, f1, f14, f16, f48, e_api_Cell, e_i64, ↓c45_L0_u, ↓c45_L1_u]
              · simp [a51] at c2
            | own l50 =>
              simp only [q49] at h f48
              cases h
              refine FC_pure (lf := lf45) rfl rfl rfl ?_
              simp only [lf45, lc45, c45_0, c45_1, c45_2, c45_3, c45_4, c45_5, c45_6, c45_7, c45_9, c45_10, c45_11, c45_12, c45_13, c45_14, c45_16]
              rcases tof (u_additiveref40_ok p1) with a52 | a52
              · simp (maxSteps := 4000000) [a52, f1, f14, f16, f48, e_api_Cell, e_i64, ↓c45_L0_u, ↓c45_L1_u, snap_arrD (e := e_api_Cell) (el := 26) (fz := false)]
              · simp [a52] at c2

/-! additivelaw40.EmitCorners -/
theorem c15_L0_u (Γ : Env) (ps : List Nat) (σ : St) : EC Γ ps 0 c15_L0 σ = EC Γ ps 0 (.seq (.seq (.reg false c15_8) (.cond (.t 27) .skip (.seq (.trim []) (.exit 0)))) (.seq (.blk 1 (.seq (.reg true c15_9) (.cond (.t 38) (.seq (.reg false c15_10) (.seq (.trim [4]) .ret)) .skip))) (.reg false c15_11))) σ := rfl
def t_additivelaw40_EmitCorners_L0 (k0 : (FS api_Cell)) (k1 : (FS api_Cell)) (s : Int) : Option (LR Int (Bool ⊕ Unit)) := match s with
 | s0 => (if (ilt s0 (flen k0)) = true then (match fget k0 s0 with
 | none => none
 | some v15 => (match fget k1 s0 with
 | none => none
 | some v18 => (if (bnot (band (ieq v15.X v18.X) (band (ieq v15.Y v18.Y) true))) = true then some (.dn (.inl false))
 else some (.nx (iadd .i64 s0 1)))))
 else some (.dn (.inr ())))
def t_additivelaw40_EmitCorners_L0_st (k0 : (FS api_Cell)) (k1 : (FS api_Cell)) (s : Int) : St := match s with
 | s0 => ⟨fr [(5, encF e_api_Cell k0), (6, encF e_api_Cell k1), (7, .int .i64 s0)], hl []⟩
def t_additivelaw40_EmitCorners_L0_out (k0 : (FS api_Cell)) (k1 : (FS api_Cell)) (x : (Bool ⊕ Unit)) : LE × St := match x with
 | .inl x => (.ret, ⟨fr [(4, .bool x)], hl []⟩)
 | .inr x => (.exit 0, ⟨fr [], hl []⟩)
theorem t_additivelaw40_EmitCorners_L0_ok {k0 : (FS api_Cell)} {k1 : (FS api_Cell)} {s : Int} {r : (Bool ⊕ Unit)} (h : loopT (t_additivelaw40_EmitCorners_L0 k0 k1) bigN s = some r) : LK env [] 0 [5, 6, 7] c15_L0 (some (t_additivelaw40_EmitCorners_L0_st k0 k1 s)) = some (t_additivelaw40_EmitCorners_L0_out k0 k1 r) := loop_walk (st := t_additivelaw40_EmitCorners_L0_st k0 k1) (out := t_additivelaw40_EmitCorners_L0_out k0 k1) (by
  clear h s r
  rintro s0 x h
  simp only [t_additivelaw40_EmitCorners_L0] at h
  by_cases c12 : (ilt s0 (flen k0)) = true
  · rw [if_pos c12] at h
    cases h14 : fget k0 s0 with
    | none => (rw [h14] at h; cases h)
    | some v15 =>
      simp only [h14] at h
      have f13 := iaddr_F (e := e_api_Cell) h14
      cases h17 : fget k1 s0 with
      | none => (rw [h17] at h; cases h)
      | some v18 =>
        simp only [h17] at h
        have f16 := iaddr_F (e := e_api_Cell) h17
        by_cases c19 : (bnot (band (ieq v15.X v18.X) (band (ieq v15.Y v18.Y) true))) = true
        · rw [if_pos c19] at h
          cases h
          show LK env [] 0 [5, 6, 7] c15_L0 (some (t_additivelaw40_EmitCorners_L0_st k0 k1 _)) = some (t_additivelaw40_EmitCorners_L0_out k0 k1 _)
          simp only [t_additivelaw40_EmitCorners_L0_st, t_additivelaw40_EmitCorners_L0_out]
          rw [LK_step]
          rcases tof (ieq v15.X v18.X) with a22 | a22
          · rcases tof (ieq v15.Y v18.Y) with a23 | a23
            · simp [c12, a22, a23] at c19
            · simp (maxSteps := 4000000) [c12, a22, a23, f13, f16, e_api_Cell, e_i64, ↓c15_L0_u, c15_0, c15_1, c15_2, c15_3, c15_4, c15_5, c15_6, c15_7, c15_8, c15_9, c15_10, c15_11, c15_13]
          · simp (maxSteps := 4000000) [c12, a22, f13, f16, e_api_Cell, e_i64, ↓c15_L0_u, c15_0, c15_1, c15_2, c15_3, c15_4, c15_5, c15_6, c15_7, c15_8, c15_9, c15_10, c15_11, c15_13]
        · rw [if_neg c19] at h
          rw [Bool.not_eq_true] at c19
          cases h
          show LK env [] 0 [5, 6, 7] c15_L0 (some (t_additivelaw40_EmitCorners_L0_st k0 k1 _)) = LK env [] 0 [5, 6, 7] c15_L0 (some (t_additivelaw40_EmitCorners_L0_st k0 k1 _))
          simp only [t_additivelaw40_EmitCorners_L0_st]
          rw [LK_step]
          rcases tof (ieq v15.X v18.X) with a20 | a20
          · rcases tof (ieq v15.Y v18.Y) with a21 | a21
            · simp (maxSteps := 4000000) [c12, a20, a21, f13, f16, e_api_Cell, e_i64, ↓c15_L0_u, c15_0, c15_1, c15_2, c15_3, c15_4, c15_5, c15_6, c15_7, c15_8, c15_9, c15_10, c15_11, c15_13]
            · simp [c12, a20, a21] at c19
          · simp [c12, a20] at c19
  · rw [if_neg c12] at h
    rw [Bool.not_eq_true] at c12
    cases h
    show LK env [] 0 [5, 6, 7] c15_L0 (some (t_additivelaw40_EmitCorners_L0_st k0 k1 _)) = some (t_additivelaw40_EmitCorners_L0_out k0 k1 _)
    simp only [t_additivelaw40_EmitCorners_L0_st, t_additivelaw40_EmitCorners_L0_out]
    rw [LK_step]
    simp (maxSteps := 4000000) [c12, e_api_Cell, e_i64, ↓c15_L0_u, c15_0, c15_1, c15_2, c15_3, c15_4, c15_5, c15_6, c15_7, c15_8, c15_9, c15_10, c15_11, c15_13]) bigN s r h
def t_additivelaw40_EmitCorners (p0 : (FS api_Cell)) (p1 : api_Cell) : Option Bool := (if (igt (flen p0) 40) = true then (match fsl p0 0 40 with
 | none => none
 | some v4 => (match t_emit_Corners v4 p1 with
 | none => none
 | some v7 => (match t_additiveref40_Corners v4 p1 with
 | none => none
 | some v10 => (if (ine (flen v7) (flen v10)) = true then some false
 else (match loopT (t_additivelaw40_EmitCorners_L0 v7 v10) bigN 0 with
 | none => none
 | some v25 => (match v25 with
 | .inl v25x => some v25x
 | .inr v25x => some u_additivelaw40_awake))))))
 else (match t_emit_Corners p0 p1 with
 | none => none
 | some v30 => (match t_additiveref40_Corners p0 p1 with
 | none => none
 | some v33 => (if (ine (flen v30) (flen v33)) = true then some false
 else (match loopT (t_additivelaw40_EmitCorners_L0 v30 v33) bigN 0 with
 | none => none
 | some v48 => (match v48 with
 | .inl v48x => some v48x
 | .inr v48x => some u_additivelaw40_awake))))))
theorem t_additivelaw40_EmitCorners_ok {p0 : (FS api_Cell)} {p1 : api_Cell} {r : Bool} (h : t_additivelaw40_EmitCorners p0 p1 = some r) : FC env 15 [encF e_api_Cell p0, .agg [.int .i64 p1.X, .int .i64 p1.Y]] none = some (.bool r, fun _ => none) := by
  unfold t_additivelaw40_EmitCorners at h
  by_cases c1 : (igt (flen p0) 40) = true
  · rw [if_pos c1] at h
    cases h3 : fsl p0 0 40 with
    | none => (rw [h3] at h; cases h)
    | some v4 =>
      simp only [h3] at h
      have f2 := slice_Fhi (e := e_api_Cell) h3
      cases h6 : t_emit_Corners v4 p1 with
      | none => (rw [h6] at h; cases h)
      | some v7 =>
        simp only [h6] at h
        have f5 := t_emit_Corners_ok h6
        cases h9 : t_additiveref40_Corners v4 p1 with
        | none => (rw [h9] at h; cases h)
        | some v10 =>
          simp only [h9] at h
          have f8 := t_additiveref40_Corners_ok h9
          by_cases c11 : (ine (flen v7) (flen v10)) = true
          · rw [if_pos c11] at h
            cases h
            refine FC_pure (lf := lf15) rfl rfl rfl ?_
            simp only [lf15, lc15, c15_0, c15_1, c15_2, c15_3, c15_4, c15_5, c15_6, c15_7, c15_8, c15_9, c15_10, c15_11, c15_13]
            simp (maxSteps := 4000000) [c1, c11, f2, f5, f8, e_api_Cell, e_i64, ↓c15_L0_u]
          · rw [if_neg c11] at h
            rw [Bool.not_eq_true] at c11
            cases h24 : loopT (t_additivelaw40_EmitCorners_L0 v7 v10) bigN 0 with
            | none => (rw [h24] at h; cases h)
            | some v25 =>
              simp only [h24] at h
              have f26 := t_additivelaw40_EmitCorners_L0_ok h24
              cases v25 with
              | inl v25x =>
                simp only [t_additivelaw40_EmitCorners_L0_st, t_additivelaw40_EmitCorners_L0_out] at h f26
                cases h
                refine FC_pure (lf := lf15) rfl rfl rfl ?_
                simp only [lf15, lc15, c15_0, c15_1, c15_2, c15_3, c15_4, c15_5, c15_6, c15_7, c15_8, c15_9, c15_10, c15_11, c15_13]
                simp (maxSteps := 4000000) [c1, c11, f2, f5, f8, f26, e_api_Cell, e_i64, ↓c15_L0_u]
              | inr v25x =>
                simp only [t_additivelaw40_EmitCorners_L0_st, t_additivelaw40_EmitCorners_L0_out] at h f26
                have f27 := u_additivelaw40_awake_ok 
                cases h
                refine FC_pure (lf := lf15) rfl rfl rfl ?_
                simp only [lf15, lc15, c15_0, c15_1, c15_2, c15_3, c15_4, c15_5, c15_6, c15_7, c15_8, c15_9, c15_10, c15_11, c15_13]
                simp (maxSteps := 4000000) [c1, c11, f2, f5, f8, f26, f27, e_api_Cell, e_i64, ↓c15_L0_u]
  · rw [if_neg c1] at h
    rw [Bool.not_eq_true] at c1
    cases h29 : t_emit_Corners p0 p1 with
    | none => (rw [h29] at h; cases h)
    | some v30 =>
      simp only [h29] at h
      have f28 := t_emit_Corners_ok h29
      cases h32 : t_additiveref40_Corners p0 p1 with
      | none => (rw [h32] at h; cases h)
      | some v33 =>
        simp only [h32] at h
        have f31 := t_additiveref40_Corners_ok h32
        by_cases c34 : (ine (flen v30) (flen v33)) = true
        · rw [if_pos c34] at h
          cases h
          refine FC_pure (lf := lf15) rfl rfl rfl ?_
          simp only [lf15, lc15, c15_0, c15_1, c15_2, c15_3, c15_4, c15_5, c15_6, c15_7, c15_8, c15_9, c15_10, c15_11, c15_13]
          simp (maxSteps := 4000000) [c1, c34, f28, f31, e_api_Cell, e_i64, ↓c15_L0_u]
        · rw [if_neg c34] at h
          rw [Bool.not_eq_true] at c34
          cases h47 : loopT (t_additivelaw40_EmitCorners_L0 v30 v33) bigN 0 with
          | none => (rw [h47] at h; cases h)
          | some v48 =>
            simp only [h47] at h
            have f49 := t_additivelaw40_EmitCorners_L0_ok h47
            cases v48 with
            | inl v48x =>
              simp only [t_additivelaw40_EmitCorners_L0_st, t_additivelaw40_EmitCorners_L0_out] at h f49
              cases h
              refine FC_pure (lf := lf15) rfl rfl rfl ?_
              simp only [lf15, lc15, c15_0, c15_1, c15_2, c15_3, c15_4, c15_5, c15_6, c15_7, c15_8, c15_9, c15_10, c15_11, c15_13]
              simp (maxSteps := 4000000) [c1, c34, f28, f31, f49, e_api_Cell, e_i64, ↓c15_L0_u]
            | inr v48x =>
              simp only [t_additivelaw40_EmitCorners_L0_st, t_additivelaw40_EmitCorners_L0_out] at h f49
              have f50 := u_additivelaw40_awake_ok 
              cases h
              refine FC_pure (lf := lf15) rfl rfl rfl ?_
              simp only [lf15, lc15, c15_0, c15_1, c15_2, c15_3, c15_4, c15_5, c15_6, c15_7, c15_8, c15_9, c15_10, c15_11, c15_13]
              simp (maxSteps := 4000000) [c1, c34, f28, f31, f49, f50, e_api_Cell, e_i64, ↓c15_L0_u]
end Go.Proofs.Ytchiiiahgmfofaa
