/- Typed functions of this seat, each with the proof that the code computes it; by program (tg3.py). -/
import Derived.Test.YtchiiiahgmfofaaCode
import Derived.Test.YtchiiiahgmfofaaVt
import Derived.KernelRfl
import Derived.Test.YtchiiiahgmfofaaTe
namespace Go.Proofs.Ytchiiiahgmfofaa
open Go Go.Vv Go.Proofs
set_option linter.unusedSimpArgs false
set_option linter.unusedVariables false
set_option maxRecDepth 100000
set_option maxHeartbeats 4000000

/-! additiveref18.Cells -/
theorem c25_L0_u (Γ : Env) (ps : List Nat) (σ : St) : EC Γ ps 0 c25_L0 σ = EC Γ ps 0 (.seq (.seq (.reg false c25_9) (.cond (.t 50) .skip (.seq (.trim [1, 3, 4, 5]) (.exit 4)))) (.seq (.blk 5 (.reg false c25_10)) (.reg false c25_11))) σ := rfl
theorem c25_L1_u (Γ : Env) (ps : List Nat) (σ : St) : EC Γ ps 0 c25_L1 σ = EC Γ ps 0 (.seq (.seq (.reg false c25_7) (.cond (.t 26) .skip (.seq (.trim [1, 3, 4]) (.exit 2)))) (.seq (.blk 3 (.seq (.reg false c25_8) (.blk 4 (.loop [1, 3, 4, 5, 6] c25_L0)))) (.reg false c25_13))) σ := rfl
theorem c25_L2_u (Γ : Env) (ps : List Nat) (σ : St) : EC Γ ps 0 c25_L2 σ = EC Γ ps 0 (.seq (.seq (.reg false c25_5) (.cond (.t 15) .skip (.seq (.trim [3]) (.exit 0)))) (.seq (.blk 1 (.seq (.reg false c25_6) (.blk 2 (.loop [1, 3, 4, 5] c25_L1)))) (.reg false c25_15))) σ := rfl
def t_additiveref18_Cells_L0 (k0 : api_Region) (k1 : Int) (k2 : Int) (s : ((FS api_Cell) × Int)) : Option (LR ((FS api_Cell) × Int) (FS api_Cell)) := match s with
 | (s0, s1) => (match fget k0.Rows k1 with
 | none => none
 | some v16 => (match fget v16.Runs k2 with
 | none => none
 | some v19 => (if (ilt s1 v19.To) = true then (if fits 16 ((flen s0) + 1) = true then some (.nx ((fsnoc s0 (⟨s1, v16.Y⟩ : api_Cell)), (iadd .i64 s1 1))) else none)
 else some (.dn s0))))
def t_additiveref18_Cells_L0_st (k0 : api_Region) (k1 : Int) (k2 : Int) (s : ((FS api_Cell) × Int)) : St := match s with
 | (s0, s1) => (fcase s0 (⟨fr [(1, .ptr 1 0 0), (3, .nils), (4, .int .i64 k1), (5, .int .i64 k2), (6, .int .i64 s1)], hl [(1, .box 0 [encF e_api_Row k0.Rows])]⟩)
  (fun l0 => ⟨fr [(1, .ptr 1 0 0), (3, .arr 3 0 0 l0.l.length), (4, .int .i64 k1), (5, .int .i64 k2), (6, .int .i64 s1)], hl [(1, .box 0 [encF e_api_Row k0.Rows]), (3, .arr 0 2 26 (cellsE e_api_Cell l0.l) false)]⟩))
def t_additiveref18_Cells_L0_out (k0 : api_Region) (k1 : Int) (k2 : Int) (x : (FS api_Cell)) : LE × St := (fcase x (.exit 4, ⟨fr [(1, .ptr 1 0 0), (3, .nils), (4, .int .i64 k1), (5, .int .i64 k2)], hl [(1, .box 0 [encF e_api_Row k0.Rows])]⟩)
  (fun l0 => (.exit 4, ⟨fr [(1, .ptr 1 0 0), (3, .arr 3 0 0 l0.l.length), (4, .int .i64 k1), (5, .int .i64 k2)], hl [(1, .box 0 [encF e_api_Row k0.Rows]), (3, .arr 0 2 26 (cellsE e_api_Cell l0.l) false)]⟩)))
theorem t_additiveref18_Cells_L0_ok {k0 : api_Region} {k1 : Int} {k2 : Int} {s : ((FS api_Cell) × Int)} {r : (FS api_Cell)} (h : loopT (t_additiveref18_Cells_L0 k0 k1 k2) bigN s = some r) : LK env [] 0 [1, 3, 4, 5, 6] c25_L0 (some (t_additiveref18_Cells_L0_st k0 k1 k2 s)) = some (t_additiveref18_Cells_L0_out k0 k1 k2 r) := loop_walk (st := t_additiveref18_Cells_L0_st k0 k1 k2) (out := t_additiveref18_Cells_L0_out k0 k1 k2) (by
  clear h s r
  rintro ⟨s0, s1⟩ x h
  simp only [t_additiveref18_Cells_L0] at h
  cases e20 : s0 with
  | nil =>
    try simp only [e20, flen_nil] at h
    cases h22 : fget k0.Rows k1 with
    | none => (rw [h22] at h; cases h)
    | some v23 =>
      simp only [h22] at h
      have f21 := iaddr_F (e := e_api_Row) h22
      cases h25 : fget v23.Runs k2 with
      | none => (rw [h25] at h; cases h)
      | some v26 =>
        simp only [h25] at h
        have f24 := iaddr_F (e := e_api_Run) h25
        by_cases c27 : (ilt s1 v26.To) = true
        · rw [if_pos c27] at h
          by_cases h30 : fits 16 (0 + 1) = true
          · rw [if_pos h30] at h
            have f29 := fun H g0 hg y => @app_nil _ _ e_api_Cell _ (⟨s1, v23.Y⟩ : api_Cell) 16 h30 (by decide) H g0 26 y hg
            simp only [e_api_Cell] at f29
            cases h
            show LK env [] 0 [1, 3, 4, 5, 6] c25_L0 (some (t_additiveref18_Cells_L0_st _ _ _ _)) = LK env [] 0 [1, 3, 4, 5, 6] c25_L0 (some (t_additiveref18_Cells_L0_st _ _ _ _))
            simp only [t_additiveref18_Cells_L0_st, e20]
            rw [LK_step]
            simp (maxSteps := 4000000) [c27, e20, f21, f24, f29, e_a4_i64, e_i64, e_sl_api_Row, e_sl_api_Run, e_additiveref34_seen, e_api_Cell, e_api_Region, e_api_Row, e_api_Run, e_comb_state, ↓c25_L0_u, ↓c25_L1_u, ↓c25_L2_u, c25_0, c25_1, c25_2, c25_3, c25_4, c25_5, c25_6, c25_7, c25_8, c25_9, c25_10, c25_11, c25_13, c25_15, c25_17]
          · rw [if_neg h30] at h; cases h
        · rw [if_neg c27] at h
          rw [Bool.not_eq_true] at c27
          cases h
          show LK env [] 0 [1, 3, 4, 5, 6] c25_L0 (some (t_additiveref18_Cells_L0_st _ _ _ _)) = some (t_additiveref18_Cells_L0_out _ _ _ _)
          simp only [t_additiveref18_Cells_L0_st, t_additiveref18_Cells_L0_out, e20]
          rw [LK_step]
          simp (maxSteps := 4000000) [c27, e20, f21, f24, e_a4_i64, e_i64, e_sl_api_Row, e_sl_api_Run, e_additiveref34_seen, e_api_Cell, e_api_Region, e_api_Row, e_api_Run, e_comb_state, ↓c25_L0_u, ↓c25_L1_u, ↓c25_L2_u, c25_0, c25_1, c25_2, c25_3, c25_4, c25_5, c25_6, c25_7, c25_8, c25_9, c25_10, c25_11, c25_13, c25_15, c25_17]
  | lst l19 =>
    try simp only [e20] at h
    cases h32 : fget k0.Rows k1 with
    | none => (rw [h32] at h; cases h)
    | some v33 =>
      simp only [h32] at h
      have f31 := iaddr_F (e := e_api_Row) h32
      cases h35 : fget v33.Runs k2 with
      | none => (rw [h35] at h; cases h)
      | some v36 =>
        simp only [h35] at h
        have f34 := iaddr_F (e := e_api_Run) h35
        by_cases c37 : (ilt s1 v36.To) = true
        · rw [if_pos c37] at h
          by_cases h40 : fits 16 ((flen (FS.lst l19)) + 1) = true
          · rw [if_pos h40] at h
            have f39 := fun g0 H y => @app_row1 _ _ e_api_Cell _ (FS.lst l19) (⟨s1, v33.Y⟩ : api_Cell) 16 h40 (by decide) g0 H 3 0 26 y
            simp only [e_api_Cell] at f39
            cases h
            show LK env [] 0 [1, 3, 4, 5, 6] c25_L0 (some (t_additiveref18_Cells_L0_st _ _ _ _)) = LK env [] 0 [1, 3, 4, 5, 6] c25_L0 (some (t_additiveref18_Cells_L0_st _ _ _ _))
            simp only [t_additiveref18_Cells_L0_st, e20]
            rw [LK_step]
            simp (maxSteps := 4000000) [c37, e20, f31, f34, f39, e_a4_i64, e_i64, e_sl_api_Row, e_sl_api_Run, e_additiveref34_seen, e_api_Cell, e_api_Region, e_api_Row, e_api_Run, e_comb_state, ↓c25_L0_u, ↓c25_L1_u, ↓c25_L2_u, c25_0, c25_1, c25_2, c25_3, c25_4, c25_5, c25_6, c25_7, c25_8, c25_9, c25_10, c25_11, c25_13, c25_15, c25_17]
          · rw [if_neg h40] at h; cases h
        · rw [if_neg c37] at h
          rw [Bool.not_eq_true] at c37
          cases h
          show LK env [] 0 [1, 3, 4, 5, 6] c25_L0 (some (t_additiveref18_Cells_L0_st _ _ _ _)) = some (t_additiveref18_Cells_L0_out _ _ _ _)
          simp only [t_additiveref18_Cells_L0_st, t_additiveref18_Cells_L0_out, e20]
          rw [LK_step]
          simp (maxSteps := 4000000) [c37, e20, f31, f34, e_a4_i64, e_i64, e_sl_api_Row, e_sl_api_Run, e_additiveref34_seen, e_api_Cell, e_api_Region, e_api_Row, e_api_Run, e_comb_state, ↓c25_L0_u, ↓c25_L1_u, ↓c25_L2_u, c25_0, c25_1, c25_2, c25_3, c25_4, c25_5, c25_6, c25_7, c25_8, c25_9, c25_10, c25_11, c25_13, c25_15, c25_17]) bigN s r h
def t_additiveref18_Cells_L1 (k0 : api_Region) (k1 : Int) (s : ((FS api_Cell) × Int)) : Option (LR ((FS api_Cell) × Int) (FS api_Cell)) := match s with
 | (s0, s1) => (match fget k0.Rows k1 with
 | none => none
 | some v8 => (if (ilt s1 (flen v8.Runs)) = true then (match fget v8.Runs s1 with
 | none => none
 | some v13 => (match loopT (t_additiveref18_Cells_L0 k0 k1 s1) bigN (s0, v13.From) with
 | none => none
 | some v25 => some (.nx (v25, (iadd .i64 s1 1)))))
 else some (.dn s0)))
def t_additiveref18_Cells_L1_st (k0 : api_Region) (k1 : Int) (s : ((FS api_Cell) × Int)) : St := match s with
 | (s0, s1) => (fcase s0 (⟨fr [(1, .ptr 1 0 0), (3, .nils), (4, .int .i64 k1), (5, .int .i64 s1)], hl [(1, .box 0 [encF e_api_Row k0.Rows])]⟩)
  (fun l0 => ⟨fr [(1, .ptr 1 0 0), (3, .arr 3 0 0 l0.l.length), (4, .int .i64 k1), (5, .int .i64 s1)], hl [(1, .box 0 [encF e_api_Row k0.Rows]), (3, .arr 0 2 26 (cellsE e_api_Cell l0.l) false)]⟩))
def t_additiveref18_Cells_L1_out (k0 : api_Region) (k1 : Int) (x : (FS api_Cell)) : LE × St := (fcase x (.exit 2, ⟨fr [(1, .ptr 1 0 0), (3, .nils), (4, .int .i64 k1)], hl [(1, .box 0 [encF e_api_Row k0.Rows])]⟩)
  (fun l0 => (.exit 2, ⟨fr [(1, .ptr 1 0 0), (3, .arr 3 0 0 l0.l.length), (4, .int .i64 k1)], hl [(1, .box 0 [encF e_api_Row k0.Rows]), (3, .arr 0 2 26 (cellsE e_api_Cell l0.l) false)]⟩)))
theorem t_additiveref18_Cells_L1_ok {k0 : api_Region} {k1 : Int} {s : ((FS api_Cell) × Int)} {r : (FS api_Cell)} (h : loopT (t_additiveref18_Cells_L1 k0 k1) bigN s = some r) : LK env [] 0 [1, 3, 4, 5] c25_L1 (some (t_additiveref18_Cells_L1_st k0 k1 s)) = some (t_additiveref18_Cells_L1_out k0 k1 r) := loop_walk (st := t_additiveref18_Cells_L1_st k0 k1) (out := t_additiveref18_Cells_L1_out k0 k1) (by
  clear h s r
  rintro ⟨s0, s1⟩ x h
  simp only [t_additiveref18_Cells_L1] at h
  cases e10 : s0 with
  | nil =>
    try simp only [e10, flen_nil] at h
    cases h12 : fget k0.Rows k1 with
    | none => (rw [h12] at h; cases h)
    | some v13 =>
      simp only [h12] at h
      have f11 := iaddr_F (e := e_api_Row) h12
      by_cases c14 : (ilt s1 (flen v13.Runs)) = true
      · rw [if_pos c14] at h
        cases h17 : fget v13.Runs s1 with
        | none => (rw [h17] at h; cases h)
        | some v18 =>
          simp only [h17] at h
          have f16 := iaddr_F (e := e_api_Run) h17
          cases h41 : loopT (t_additiveref18_Cells_L0 k0 k1 s1) bigN ((FS.nil : (FS api_Cell)), v18.From) with
          | none => (rw [h41] at h; cases h)
          | some v42 =>
            simp only [h41] at h
            have f43 := t_additiveref18_Cells_L0_ok h41
            simp only [t_additiveref18_Cells_L0_st, t_additiveref18_Cells_L0_out, fset_len] at f43
            cases e45 : v42 with
            | nil =>
              try simp only [e45, flen_nil] at h
              simp only [e45, flen_nil, fcase_nil, fcase_lst] at f43
              cases h
              show LK env [] 0 [1, 3, 4, 5] c25_L1 (some (t_additiveref18_Cells_L1_st _ _ _)) = LK env [] 0 [1, 3, 4, 5] c25_L1 (some (t_additiveref18_Cells_L1_st _ _ _))
              simp only [t_additiveref18_Cells_L1_st, e10]
              rw [LK_step]
              try simp only [c14] at f43
              simp (maxSteps := 4000000) [c14, e10, f11, f16, f43, e45, e_a4_i64, e_i64, e_sl_api_Row, e_sl_api_Run, e_additiveref34_seen, e_api_Cell, e_api_Region, e_api_Row, e_api_Run, e_comb_state, ↓c25_L0_u, ↓c25_L1_u, ↓c25_L2_u, c25_0, c25_1, c25_2, c25_3, c25_4, c25_5, c25_6, c25_7, c25_8, c25_9, c25_10, c25_11, c25_13, c25_15, c25_17]
            | lst l44 =>
              try simp only [e45] at h
              simp only [e45, flen_nil, fcase_nil, fcase_lst] at f43
              cases h
              show LK env [] 0 [1, 3, 4, 5] c25_L1 (some (t_additiveref18_Cells_L1_st _ _ _)) = LK env [] 0 [1, 3, 4, 5] c25_L1 (some (t_additiveref18_Cells_L1_st _ _ _))
              simp only [t_additiveref18_Cells_L1_st, e10]
              rw [LK_step]
              try simp only [c14] at f43
              simp (maxSteps := 4000000) [c14, e10, f11, f16, f43, e45, e_a4_i64, e_i64, e_sl_api_Row, e_sl_api_Run, e_additiveref34_seen, e_api_Cell, e_api_Region, e_api_Row, e_api_Run, e_comb_state, ↓c25_L0_u, ↓c25_L1_u, ↓c25_L2_u, c25_0, c25_1, c25_2, c25_3, c25_4, c25_5, c25_6, c25_7, c25_8, c25_9, c25_10, c25_11, c25_13, c25_15, c25_17]
      · rw [if_neg c14] at h
        rw [Bool.not_eq_true] at c14
        cases h
        show LK env [] 0 [1, 3, 4, 5] c25_L1 (some (t_additiveref18_Cells_L1_st _ _ _)) = some (t_additiveref18_Cells_L1_out _ _ _)
        simp only [t_additiveref18_Cells_L1_st, t_additiveref18_Cells_L1_out, e10]
        rw [LK_step]
        simp (maxSteps := 4000000) [c14, e10, f11, e_a4_i64, e_i64, e_sl_api_Row, e_sl_api_Run, e_additiveref34_seen, e_api_Cell, e_api_Region, e_api_Row, e_api_Run, e_comb_state, ↓c25_L0_u, ↓c25_L1_u, ↓c25_L2_u, c25_0, c25_1, c25_2, c25_3, c25_4, c25_5, c25_6, c25_7, c25_8, c25_9, c25_10, c25_11, c25_13, c25_15, c25_17]
  | lst l9 =>
    try simp only [e10] at h
    cases h47 : fget k0.Rows k1 with
    | none => (rw [h47] at h; cases h)
    | some v48 =>
      simp only [h47] at h
      have f46 := iaddr_F (e := e_api_Row) h47
      by_cases c49 : (ilt s1 (flen v48.Runs)) = true
      · rw [if_pos c49] at h
        cases h52 : fget v48.Runs s1 with
        | none => (rw [h52] at h; cases h)
        | some v53 =>
          simp only [h52] at h
          have f51 := iaddr_F (e := e_api_Run) h52
          cases h54 : loopT (t_additiveref18_Cells_L0 k0 k1 s1) bigN ((FS.lst l9), v53.From) with
          | none => (rw [h54] at h; cases h)
          | some v55 =>
            simp only [h54] at h
            have f56 := t_additiveref18_Cells_L0_ok h54
            simp only [t_additiveref18_Cells_L0_st, t_additiveref18_Cells_L0_out, fset_len] at f56
            cases e58 : v55 with
            | nil =>
              try simp only [e58, flen_nil] at h
              simp only [e58, flen_nil, fcase_nil, fcase_lst] at f56
              cases h
              show LK env [] 0 [1, 3, 4, 5] c25_L1 (some (t_additiveref18_Cells_L1_st _ _ _)) = LK env [] 0 [1, 3, 4, 5] c25_L1 (some (t_additiveref18_Cells_L1_st _ _ _))
              simp only [t_additiveref18_Cells_L1_st, e10]
              rw [LK_step]
              try simp only [c49] at f56
              simp (maxSteps := 4000000) [c49, e10, f46, f51, f56, e58, e_a4_i64, e_i64, e_sl_api_Row, e_sl_api_Run, e_additiveref34_seen, e_api_Cell, e_api_Region, e_api_Row, e_api_Run, e_comb_state, ↓c25_L0_u, ↓c25_L1_u, ↓c25_L2_u, c25_0, c25_1, c25_2, c25_3, c25_4, c25_5, c25_6, c25_7, c25_8, c25_9, c25_10, c25_11, c25_13, c25_15, c25_17]
            | lst l57 =>
              try simp only [e58] at h
              simp only [e58, flen_nil, fcase_nil, fcase_lst] at f56
              cases h
              show LK env [] 0 [1, 3, 4, 5] c25_L1 (some (t_additiveref18_Cells_L1_st _ _ _)) = LK env [] 0 [1, 3, 4, 5] c25_L1 (some (t_additiveref18_Cells_L1_st _ _ _))
              simp only [t_additiveref18_Cells_L1_st, e10]
              rw [LK_step]
              try simp only [c49] at f56
              simp (maxSteps := 4000000) [c49, e10, f46, f51, f56, e58, e_a4_i64, e_i64, e_sl_api_Row, e_sl_api_Run, e_additiveref34_seen, e_api_Cell, e_api_Region, e_api_Row, e_api_Run, e_comb_state, ↓c25_L0_u, ↓c25_L1_u, ↓c25_L2_u, c25_0, c25_1, c25_2, c25_3, c25_4, c25_5, c25_6, c25_7, c25_8, c25_9, c25_10, c25_11, c25_13, c25_15, c25_17]
      · rw [if_neg c49] at h
        rw [Bool.not_eq_true] at c49
        cases h
        show LK env [] 0 [1, 3, 4, 5] c25_L1 (some (t_additiveref18_Cells_L1_st _ _ _)) = some (t_additiveref18_Cells_L1_out _ _ _)
        simp only [t_additiveref18_Cells_L1_st, t_additiveref18_Cells_L1_out, e10]
        rw [LK_step]
        simp (maxSteps := 4000000) [c49, e10, f46, e_a4_i64, e_i64, e_sl_api_Row, e_sl_api_Run, e_additiveref34_seen, e_api_Cell, e_api_Region, e_api_Row, e_api_Run, e_comb_state, ↓c25_L0_u, ↓c25_L1_u, ↓c25_L2_u, c25_0, c25_1, c25_2, c25_3, c25_4, c25_5, c25_6, c25_7, c25_8, c25_9, c25_10, c25_11, c25_13, c25_15, c25_17]) bigN s r h
def t_additiveref18_Cells_L2 (k0 : api_Region) (s : ((FS api_Cell) × Int)) : Option (LR ((FS api_Cell) × Int) (FS api_Cell)) := match s with
 | (s0, s1) => (if (ilt s1 (flen k0.Rows)) = true then (match loopT (t_additiveref18_Cells_L1 k0 s1) bigN (s0, 0) with
 | none => none
 | some v28 => some (.nx (v28, (iadd .i64 s1 1))))
 else some (.dn s0))
def t_additiveref18_Cells_L2_st (k0 : api_Region) (s : ((FS api_Cell) × Int)) : St := match s with
 | (s0, s1) => (fcase s0 (⟨fr [(1, .ptr 1 0 0), (3, .nils), (4, .int .i64 s1)], hl [(1, .box 0 [encF e_api_Row k0.Rows])]⟩)
  (fun l0 => ⟨fr [(1, .ptr 1 0 0), (3, .arr 3 0 0 l0.l.length), (4, .int .i64 s1)], hl [(1, .box 0 [encF e_api_Row k0.Rows]), (3, .arr 0 2 26 (cellsE e_api_Cell l0.l) false)]⟩))
def t_additiveref18_Cells_L2_out (k0 : api_Region) (x : (FS api_Cell)) : LE × St := (fcase x (.exit 0, ⟨fr [(3, .nils)], hl []⟩)
  (fun l0 => (.exit 0, ⟨fr [(3, .arr 3 0 0 l0.l.length)], hl [(3, .arr 0 2 26 (cellsE e_api_Cell l0.l) false)]⟩)))
theorem t_additiveref18_Cells_L2_ok {k0 : api_Region} {s : ((FS api_Cell) × Int)} {r : (FS api_Cell)} (h : loopT (t_additiveref18_Cells_L2 k0) bigN s = some r) : LK env [] 0 [1, 3, 4] c25_L2 (some (t_additiveref18_Cells_L2_st k0 s)) = some (t_additiveref18_Cells_L2_out k0 r) := loop_walk (st := t_additiveref18_Cells_L2_st k0) (out := t_additiveref18_Cells_L2_out k0) (by
  clear h s r
  rintro ⟨s0, s1⟩ x h
  simp only [t_additiveref18_Cells_L2] at h
  cases e7 : s0 with
  | nil =>
    try simp only [e7, flen_nil] at h
    by_cases c8 : (ilt s1 (flen k0.Rows)) = true
    · rw [if_pos c8] at h
      cases h59 : loopT (t_additiveref18_Cells_L1 k0 s1) bigN ((FS.nil : (FS api_Cell)), 0) with
      | none => (rw [h59] at h; cases h)
      | some v60 =>
        simp only [h59] at h
        have f61 := t_additiveref18_Cells_L1_ok h59
        simp only [t_additiveref18_Cells_L1_st, t_additiveref18_Cells_L1_out, fset_len] at f61
        cases e63 : v60 with
        | nil =>
          try simp only [e63, flen_nil] at h
          simp only [e63, flen_nil, fcase_nil, fcase_lst] at f61
          cases h
          show LK env [] 0 [1, 3, 4] c25_L2 (some (t_additiveref18_Cells_L2_st _ _)) = LK env [] 0 [1, 3, 4] c25_L2 (some (t_additiveref18_Cells_L2_st _ _))
          simp only [t_additiveref18_Cells_L2_st, e7]
          rw [LK_step]
          try simp only [c8] at f61
          simp (maxSteps := 4000000) [c8, e7, f61, e63, e_a4_i64, e_i64, e_sl_api_Row, e_sl_api_Run, e_additiveref34_seen, e_api_Cell, e_api_Region, e_api_Row, e_api_Run, e_comb_state, ↓c25_L0_u, ↓c25_L1_u, ↓c25_L2_u, c25_0, c25_1, c25_2, c25_3, c25_4, c25_5, c25_6, c25_7, c25_8, c25_9, c25_10, c25_11, c25_13, c25_15, c25_17]
        | lst l62 =>
          try simp only [e63] at h
          simp only [e63, flen_nil, fcase_nil, fcase_lst] at f61
          cases h
          show LK env [] 0 [1, 3, 4] c25_L2 (some (t_additiveref18_Cells_L2_st _ _)) = LK env [] 0 [1, 3, 4] c25_L2 (some (t_additiveref18_Cells_L2_st _ _))
          simp only [t_additiveref18_Cells_L2_st, e7]
          rw [LK_step]
          try simp only [c8] at f61
          simp (maxSteps := 4000000) [c8, e7, f61, e63, e_a4_i64, e_i64, e_sl_api_Row, e_sl_api_Run, e_additiveref34_seen, e_api_Cell, e_api_Region, e_api_Row, e_api_Run, e_comb_state, ↓c25_L0_u, ↓c25_L1_u, ↓c25_L2_u, c25_0, c25_1, c25_2, c25_3, c25_4, c25_5, c25_6, c25_7, c25_8, c25_9, c25_10, c25_11, c25_13, c25_15, c25_17]
    · rw [if_neg c8] at h
      rw [Bool.not_eq_true] at c8
      cases h
      show LK env [] 0 [1, 3, 4] c25_L2 (some (t_additiveref18_Cells_L2_st _ _)) = some (t_additiveref18_Cells_L2_out _ _)
      simp only [t_additiveref18_Cells_L2_st, t_additiveref18_Cells_L2_out, e7]
      rw [LK_step]
      simp (maxSteps := 4000000) [c8, e7, e_a4_i64, e_i64, e_sl_api_Row, e_sl_api_Run, e_additiveref34_seen, e_api_Cell, e_api_Region, e_api_Row, e_api_Run, e_comb_state, ↓c25_L0_u, ↓c25_L1_u, ↓c25_L2_u, c25_0, c25_1, c25_2, c25_3, c25_4, c25_5, c25_6, c25_7, c25_8, c25_9, c25_10, c25_11, c25_13, c25_15, c25_17]
  | lst l6 =>
    try simp only [e7] at h
    by_cases c64 : (ilt s1 (flen k0.Rows)) = true
    · rw [if_pos c64] at h
      cases h65 : loopT (t_additiveref18_Cells_L1 k0 s1) bigN ((FS.lst l6), 0) with
      | none => (rw [h65] at h; cases h)
      | some v66 =>
        simp only [h65] at h
        have f67 := t_additiveref18_Cells_L1_ok h65
        simp only [t_additiveref18_Cells_L1_st, t_additiveref18_Cells_L1_out, fset_len] at f67
        cases e69 : v66 with
        | nil =>
          try simp only [e69, flen_nil] at h
          simp only [e69, flen_nil, fcase_nil, fcase_lst] at f67
          cases h
          show LK env [] 0 [1, 3, 4] c25_L2 (some (t_additiveref18_Cells_L2_st _ _)) = LK env [] 0 [1, 3, 4] c25_L2 (some (t_additiveref18_Cells_L2_st _ _))
          simp only [t_additiveref18_Cells_L2_st, e7]
          rw [LK_step]
          try simp only [c64] at f67
          simp (maxSteps := 4000000) [c64, e7, f67, e69, e_a4_i64, e_i64, e_sl_api_Row, e_sl_api_Run, e_additiveref34_seen, e_api_Cell, e_api_Region, e_api_Row, e_api_Run, e_comb_state, ↓c25_L0_u, ↓c25_L1_u, ↓c25_L2_u, c25_0, c25_1, c25_2, c25_3, c25_4, c25_5, c25_6, c25_7, c25_8, c25_9, c25_10, c25_11, c25_13, c25_15, c25_17]
        | lst l68 =>
          try simp only [e69] at h
          simp only [e69, flen_nil, fcase_nil, fcase_lst] at f67
          cases h
          show LK env [] 0 [1, 3, 4] c25_L2 (some (t_additiveref18_Cells_L2_st _ _)) = LK env [] 0 [1, 3, 4] c25_L2 (some (t_additiveref18_Cells_L2_st _ _))
          simp only [t_additiveref18_Cells_L2_st, e7]
          rw [LK_step]
          try simp only [c64] at f67
          simp (maxSteps := 4000000) [c64, e7, f67, e69, e_a4_i64, e_i64, e_sl_api_Row, e_sl_api_Run, e_additiveref34_seen, e_api_Cell, e_api_Region, e_api_Row, e_api_Run, e_comb_state, ↓c25_L0_u, ↓c25_L1_u, ↓c25_L2_u, c25_0, c25_1, c25_2, c25_3, c25_4, c25_5, c25_6, c25_7, c25_8, c25_9, c25_10, c25_11, c25_13, c25_15, c25_17]
    · rw [if_neg c64] at h
      rw [Bool.not_eq_true] at c64
      cases h
      show LK env [] 0 [1, 3, 4] c25_L2 (some (t_additiveref18_Cells_L2_st _ _)) = some (t_additiveref18_Cells_L2_out _ _)
      simp only [t_additiveref18_Cells_L2_st, t_additiveref18_Cells_L2_out, e7]
      rw [LK_step]
      simp (maxSteps := 4000000) [c64, e7, e_a4_i64, e_i64, e_sl_api_Row, e_sl_api_Run, e_additiveref34_seen, e_api_Cell, e_api_Region, e_api_Row, e_api_Run, e_comb_state, ↓c25_L0_u, ↓c25_L1_u, ↓c25_L2_u, c25_0, c25_1, c25_2, c25_3, c25_4, c25_5, c25_6, c25_7, c25_8, c25_9, c25_10, c25_11, c25_13, c25_15, c25_17]) bigN s r h
def t_additiveref18_Cells (p0 : api_Region) : Option (FS api_Cell) := (match t_additiveref18_Valid p0 with
 | none => none
 | some v3 => (if (bnot v3) = true then some (FS.nil : (FS api_Cell))
 else (match loopT (t_additiveref18_Cells_L2 p0) bigN ((FS.nil : (FS api_Cell)), 0) with
 | none => none
 | some v31 => some v31)))
theorem t_additiveref18_Cells_ok {p0 : api_Region} {r : (FS api_Cell)} (h : t_additiveref18_Cells p0 = some r) : FC env 25 [.agg [encF e_api_Row p0.Rows]] none = some (encF e_api_Cell r, fun _ => none) := by
  unfold t_additiveref18_Cells at h
  cases h2 : t_additiveref18_Valid p0 with
  | none => (rw [h2] at h; cases h)
  | some v3 =>
    simp only [h2] at h
    have f1 := t_additiveref18_Valid_ok h2
    by_cases c4 : (bnot v3) = true
    · rw [if_pos c4] at h
      cases h
      refine FC_pure (lf := lf25) rfl rfl rfl ?_
      simp only [lf25, lc25, c25_0, c25_1, c25_2, c25_3, c25_4, c25_5, c25_6, c25_7, c25_8, c25_9, c25_10, c25_11, c25_13, c25_15, c25_17]
      rcases tof v3 with a5 | a5
      · simp [a5] at c4
      · simp (maxSteps := 4000000) [a5, f1, e_a4_i64, e_i64, e_sl_api_Row, e_sl_api_Run, e_additiveref34_seen, e_api_Cell, e_api_Region, e_api_Row, e_api_Run, e_comb_state, ↓c25_L0_u, ↓c25_L1_u, ↓c25_L2_u]
    · rw [if_neg c4] at h
      rw [Bool.not_eq_true] at c4
      cases h70 : loopT (t_additiveref18_Cells_L2 p0) bigN ((FS.nil : (FS api_Cell)), 0) with
      | none => (rw [h70] at h; cases h)
      | some v71 =>
        simp only [h70] at h
        have f72 := t_additiveref18_Cells_L2_ok h70
        simp only [t_additiveref18_Cells_L2_st, t_additiveref18_Cells_L2_out, fset_len] at f72
        cases e74 : v71 with
        | nil =>
          try simp only [e74, flen_nil] at h
          simp only [e74, flen_nil, fcase_nil, fcase_lst] at f72
          cases h
          refine FC_pure (lf := lf25) rfl rfl rfl ?_
          simp only [lf25, lc25, c25_0, c25_1, c25_2, c25_3, c25_4, c25_5, c25_6, c25_7, c25_8, c25_9, c25_10, c25_11, c25_13, c25_15, c25_17]
          rcases tof v3 with a75 | a75
          · try simp only [a75] at f72
            simp (maxSteps := 4000000) [a75, f1, f72, e74, e_a4_i64, e_i64, e_sl_api_Row, e_sl_api_Run, e_additiveref34_seen, e_api_Cell, e_api_Region, e_api_Row, e_api_Run, e_comb_state, ↓c25_L0_u, ↓c25_L1_u, ↓c25_L2_u]
          · simp [a75] at c4
        | lst l73 =>
          try simp only [e74] at h
          simp only [e74, flen_nil, fcase_nil, fcase_lst] at f72
          cases h
          refine FC_pure (lf := lf25) rfl rfl rfl ?_
          simp only [lf25, lc25, c25_0, c25_1, c25_2, c25_3, c25_4, c25_5, c25_6, c25_7, c25_8, c25_9, c25_10, c25_11, c25_13, c25_15, c25_17]
          rcases tof v3 with a76 | a76
          · try simp only [a76] at f72
            simp (maxSteps := 4000000) [a76, f1, f72, e74, e_a4_i64, e_i64, e_sl_api_Row, e_sl_api_Run, e_additiveref34_seen, e_api_Cell, e_api_Region, e_api_Row, e_api_Run, e_comb_state, ↓c25_L0_u, ↓c25_L1_u, ↓c25_L2_u, snap_rowD (e := e_api_Cell) (el := 26) (fz := false)]
          · simp [a76] at c4

/-! additiveref34.ahead -/
def t_additiveref34_ahead (p0 : api_Cell) (p1 : Int) : Option api_Cell := (if (ieq p1 0) = true then some (⟨(iadd .i64 p0.X 1), p0.Y⟩ : api_Cell)
 else (if (ieq p1 1) = true then some (⟨(isub .i64 p0.X 1), p0.Y⟩ : api_Cell)
 else (if (ieq p1 2) = true then some (⟨p0.X, (iadd .i64 p0.Y 1)⟩ : api_Cell)
 else some (⟨p0.X, (isub .i64 p0.Y 1)⟩ : api_Cell))))
theorem t_additiveref34_ahead_ok {p0 : api_Cell} {p1 : Int} {r : api_Cell} (h : t_additiveref34_ahead p0 p1 = some r) : FC env 96 [.agg [.int .i64 p0.X, .int .i64 p0.Y], .int .i64 p1] none = some (.agg [.int .i64 r.X, .int .i64 r.Y], fun _ => none) := by
  unfold t_additiveref34_ahead at h
  by_cases c1 : (ieq p1 0) = true
  · rw [if_pos c1] at h
    cases h
    refine FC_pure (lf := lf96) rfl rfl rfl ?_
    simp only [lf96, lc96, c96_0, c96_1, c96_2, c96_3, c96_4, c96_5, c96_6, c96_7, c96_8]
    simp (maxSteps := 4000000) [c1, e_a4_i64, e_i64, e_sl_api_Row, e_sl_api_Run, e_additiveref34_seen, e_api_Cell, e_api_Region, e_api_Row, e_api_Run, e_comb_state]
  · rw [if_neg c1] at h
    rw [Bool.not_eq_true] at c1
    by_cases c2 : (ieq p1 1) = true
    · rw [if_pos c2] at h
      cases h
      refine FC_pure (lf := lf96) rfl rfl rfl ?_
      simp only [lf96, lc96, c96_0, c96_1, c96_2, c96_3, c96_4, c96_5, c96_6, c96_7, c96_8]
      simp (maxSteps := 4000000) [c1, c2, e_a4_i64, e_i64, e_sl_api_Row, e_sl_api_Run, e_additiveref34_seen, e_api_Cell, e_api_Region, e_api_Row, e_api_Run, e_comb_state]
    · rw [if_neg c2] at h
      rw [Bool.not_eq_true] at c2
      by_cases c3 : (ieq p1 2) = true
      · rw [if_pos c3] at h
        cases h
        refine FC_pure (lf := lf96) rfl rfl rfl ?_
        simp only [lf96, lc96, c96_0, c96_1, c96_2, c96_3, c96_4, c96_5, c96_6, c96_7, c96_8]
        simp (maxSteps := 4000000) [c1, c2, c3, e_a4_i64, e_i64, e_sl_api_Row, e_sl_api_Run, e_additiveref34_seen, e_api_Cell, e_api_Region, e_api_Row, e_api_Run, e_comb_state]
      · rw [if_neg c3] at h
        rw [Bool.not_eq_true] at c3
        cases h
        refine FC_pure (lf := lf96) rfl rfl rfl ?_
        simp only [lf96, lc96, c96_0, c96_1, c96_2, c96_3, c96_4, c96_5, c96_6, c96_7, c96_8]
        simp (maxSteps := 4000000) [c1, c2, c3, e_a4_i64, e_i64, e_sl_api_Row, e_sl_api_Run, e_additiveref34_seen, e_api_Cell, e_api_Region, e_api_Row, e_api_Run, e_comb_state]

/-! additiveref34.spot -/
theorem c68_L0_u (Γ : Env) (ps : List Nat) (σ : St) : EC Γ ps 0 c68_L0 σ = EC Γ ps 0 (.seq (.seq (.reg false c68_2) (.cond (.t 9) .skip (.seq (.trim []) (.exit 0)))) (.seq (.blk 1 (.seq (.reg true c68_3) (.cond (.t 17) (.seq (.reg false c68_4) (.seq (.trim [4]) .ret)) .skip))) (.reg false c68_5))) σ := rfl
def t_additiveref34_spot_L0 (k0 : (FS api_Cell)) (k1 : api_Cell) (s : Int) : Option (LR Int (Int ⊕ Unit)) := match s with
 | s0 => (if (ilt s0 (flen k0)) = true then (match fget k0 s0 with
 | none => none
 | some v4 => (if (band (ieq v4.X k1.X) (band (ieq v4.Y k1.Y) true)) = true then some (.dn (.inl s0))
 else some (.nx (iadd .i64 s0 1))))
 else some (.dn (.inr ())))
def t_additiveref34_spot_L0_st (k0 : (FS api_Cell)) (k1 : api_Cell) (s : Int) : St := match s with
 | s0 => ⟨fr [(0, encF e_api_Cell k0), (3, .ptr 3 0 0), (5, .int .i64 s0)], hl [(3, .box 0 [.int .i64 k1.X, .int .i64 k1.Y])]⟩
def t_additiveref34_spot_L0_out (k0 : (FS api_Cell)) (k1 : api_Cell) (x : (Int ⊕ Unit)) : LE × St := match x with
 | .inl x => (.ret, ⟨fr [(4, .int .i64 x)], hl []⟩)
 | .inr x => (.exit 0, ⟨fr [], hl []⟩)
theorem t_additiveref34_spot_L0_ok {k0 : (FS api_Cell)} {k1 : api_Cell} {s : Int} {r : (Int ⊕ Unit)} (h : loopT (t_additiveref34_spot_L0 k0 k1) bigN s = some r) : LK env [] 0 [0, 3, 5] c68_L0 (some (t_additiveref34_spot_L0_st k0 k1 s)) = some (t_additiveref34_spot_L0_out k0 k1 r) := loop_walk (st := t_additiveref34_spot_L0_st k0 k1) (out := t_additiveref34_spot_L0_out k0 k1) (by
  clear h s r
  rintro s0 x h
  simp only [t_additiveref34_spot_L0] at h
  by_cases c1 : (ilt s0 (flen k0)) = true
  · rw [if_pos c1] at h
    cases h3 : fget k0 s0 with
    | none => (rw [h3] at h; cases h)
    | some v4 =>
      simp only [h3] at h
      have f2 := iaddr_F (e := e_api_Cell) h3
      by_cases c5 : (band (ieq v4.X k1.X) (band (ieq v4.Y k1.Y) true)) = true
      · rw [if_pos c5] at h
        cases h
        show LK env [] 0 [0, 3, 5] c68_L0 (some (t_additiveref34_spot_L0_st _ _ _)) = some (t_additiveref34_spot_L0_out _ _ _)
        simp only [t_additiveref34_spot_L0_st, t_additiveref34_spot_L0_out]
        rw [LK_step]
        rcases tof (ieq v4.X k1.X) with a6 | a6
        · rcases tof (ieq v4.Y k1.Y) with a7 | a7
          · simp (maxSteps := 4000000) [c1, a6, a7, f2, e_a4_i64, e_i64, e_sl_api_Row, e_sl_api_Run, e_additiveref34_seen, e_api_Cell, e_api_Region, e_api_Row, e_api_Run, e_comb_state, ↓c68_L0_u, c68_0, c68_1, c68_2, c68_3, c68_4, c68_5, c68_7]
          · simp [c1, a6, a7] at c5
        · simp [c1, a6] at c5
      · rw [if_neg c5] at h
        rw [Bool.not_eq_true] at c5
        cases h
        show LK env [] 0 [0, 3, 5] c68_L0 (some (t_additiveref34_spot_L0_st _ _ _)) = LK env [] 0 [0, 3, 5] c68_L0 (some (t_additiveref34_spot_L0_st _ _ _))
        simp only [t_additiveref34_spot_L0_st]
        rw [LK_step]
        rcases tof (ieq v4.X k1.X) with a8 | a8
        · rcases tof (ieq v4.Y k1.Y) with a9 | a9
          · simp [c1, a8, a9] at c5
          · simp (maxSteps := 4000000) [c1, a8, a9, f2, e_a4_i64, e_i64, e_sl_api_Row, e_sl_api_Run, e_additiveref34_seen, e_api_Cell, e_api_Region, e_api_Row, e_api_Run, e_comb_state, ↓c68_L0_u, c68_0, c68_1, c68_2, c68_3, c68_4, c68_5, c68_7]
        · simp (maxSteps := 4000000) [c1, a8, f2, e_a4_i64, e_i64, e_sl_api_Row, e_sl_api_Run, e_additiveref34_seen, e_api_Cell, e_api_Region, e_api_Row, e_api_Run, e_comb_state, ↓c68_L0_u, c68_0, c68_1, c68_2, c68_3, c68_4, c68_5, c68_7]
  · rw [if_neg c1] at h
    rw [Bool.not_eq_true] at c1
    cases h
    show LK env [] 0 [0, 3, 5] c68_L0 (some (t_additiveref34_spot_L0_st _ _ _)) = some (t_additiveref34_spot_L0_out _ _ _)
    simp only [t_additiveref34_spot_L0_st, t_additiveref34_spot_L0_out]
    rw [LK_step]
    simp (maxSteps := 4000000) [c1, e_a4_i64, e_i64, e_sl_api_Row, e_sl_api_Run, e_additiveref34_seen, e_api_Cell, e_api_Region, e_api_Row, e_api_Run, e_comb_state, ↓c68_L0_u, c68_0, c68_1, c68_2, c68_3, c68_4, c68_5, c68_7]) bigN s r h
def t_additiveref34_spot (p0 : (FS api_Cell)) (p1 : api_Cell) : Option Int := (match loopT (t_additiveref34_spot_L0 p0 p1) bigN 0 with
 | none => none
 | some v7 => (match v7 with
 | .inl v7x => some v7x
 | .inr v7x => some (-1)))
theorem t_additiveref34_spot_ok {p0 : (FS api_Cell)} {p1 : api_Cell} {r : Int} (h : t_additiveref34_spot p0 p1 = some r) : FC env 68 [encF e_api_Cell p0, .agg [.int .i64 p1.X, .int .i64 p1.Y]] none = some (.int .i64 r, fun _ => none) := by
  unfold t_additiveref34_spot at h
  cases h10 : loopT (t_additiveref34_spot_L0 p0 p1) bigN 0 with
  | none => (rw [h10] at h; cases h)
  | some v11 =>
    simp only [h10] at h
    have f12 := t_additiveref34_spot_L0_ok h10
    cases v11 with
    | inl v11x =>
      try simp only at h
      simp only [t_additiveref34_spot_L0_st, t_additiveref34_spot_L0_out, fset_len] at f12
      try simp only [fcase_nil, fcase_lst, fcase_fsnoc, fcase_fapp, fcase_fset, fcase_frep, fcase_flit, fcase_flst] at f12
      cases h
      refine FC_pure (lf := lf68) rfl rfl rfl ?_
      simp only [lf68, lc68, c68_0, c68_1, c68_2, c68_3, c68_4, c68_5, c68_7]
      simp (maxSteps := 4000000) [f12, e_a4_i64, e_i64, e_sl_api_Row, e_sl_api_Run, e_additiveref34_seen, e_api_Cell, e_api_Region, e_api_Row, e_api_Run, e_comb_state, ↓c68_L0_u]
    | inr v11x =>
      try simp only at h
      simp only [t_additiveref34_spot_L0_st, t_additiveref34_spot_L0_out, fset_len] at f12
      try simp only [fcase_nil, fcase_lst, fcase_fsnoc, fcase_fapp, fcase_fset, fcase_frep, fcase_flit, fcase_flst] at f12
      cases h
      refine FC_pure (lf := lf68) rfl rfl rfl ?_
      simp only [lf68, lc68, c68_0, c68_1, c68_2, c68_3, c68_4, c68_5, c68_7]
      simp (maxSteps := 4000000) [f12, e_a4_i64, e_i64, e_sl_api_Row, e_sl_api_Run, e_additiveref34_seen, e_api_Cell, e_api_Region, e_api_Row, e_api_Run, e_comb_state, ↓c68_L0_u]

/-! additiveref34.table -/
theorem c66_L0_u (Γ : Env) (ps : List Nat) (σ : St) : EC Γ ps 0 c66_L0 σ = EC Γ ps 0 (.seq (.seq (.reg false c66_5) (.cond (.t 16) .skip (.seq (.trim [0, 3, 4]) (.exit 2)))) (.seq (.blk 3 (.reg true c66_6)) (.reg false c66_7))) σ := rfl
theorem c66_L1_u (Γ : Env) (ps : List Nat) (σ : St) : EC Γ ps 0 c66_L1 σ = EC Γ ps 0 (.seq (.seq (.reg false c66_3) (.cond (.t 12) .skip (.seq (.trim [3]) (.exit 0)))) (.seq (.blk 1 (.seq (.reg false c66_4) (.blk 2 (.loop [0, 3, 4, 5] c66_L0)))) (.reg false c66_9))) σ := rfl
def t_additiveref34_table_L0 (k0 : (FS api_Cell)) (k1 : Int) (s : ((FS (A4 Int)) × Int)) : Option (LR ((FS (A4 Int)) × Int) (FS (A4 Int))) := match s with
 | (s0, s1) => (if (ilt s1 4) = true then (match fget k0 k1 with
 | none => none
 | some v7 => (match t_additiveref34_ahead v7 s1 with
 | none => none
 | some v10 => (match t_additiveref34_spot k0 v10 with
 | none => none
 | some v13 => (match fget s0 k1 with
 | none => none
 | some v17 => (if inB s1 4 = true then some (.nx ((fset s0 k1 (A4.set v17 s1 v13)), (iadd .i64 s1 1))) else none)))))
 else some (.dn s0))
def t_additiveref34_table_L0_st (k0 : (FS api_Cell)) (k1 : Int) (s : ((FS (A4 Int)) × Int)) : St := match s with
 | (s0, s1) => ⟨fr [(0, encF e_api_Cell k0), (3, .arr 3 0 0 s0.l.length), (4, .int .i64 k1), (5, .int .i64 s1)], hl [(3, .arr 0 4 84 (cellsE e_a4_i64 s0.l) false)]⟩
def t_additiveref34_table_L0_out (k0 : (FS api_Cell)) (k1 : Int) (x : (FS (A4 Int))) : LE × St := (.exit 2, ⟨fr [(0, encF e_api_Cell k0), (3, .arr 3 0 0 x.l.length), (4, .int .i64 k1)], hl [(3, .arr 0 4 84 (cellsE e_a4_i64 x.l) false)]⟩)
theorem t_additiveref34_table_L0_ok {k0 : (FS api_Cell)} {k1 : Int} {s : ((FS (A4 Int)) × Int)} {r : (FS (A4 Int))} (h : loopT (t_additiveref34_table_L0 k0 k1) bigN s = some r) : LK env [] 0 [0, 3, 4, 5] c66_L0 (some (t_additiveref34_table_L0_st k0 k1 s)) = some (t_additiveref34_table_L0_out k0 k1 r) := loop_walk (st := t_additiveref34_table_L0_st k0 k1) (out := t_additiveref34_table_L0_out k0 k1) (by
  clear h s r
  rintro ⟨s0, s1⟩ x h
  simp only [t_additiveref34_table_L0] at h
  by_cases c4 : (ilt s1 4) = true
  · rw [if_pos c4] at h
    cases h6 : fget k0 k1 with
    | none => (rw [h6] at h; cases h)
    | some v7 =>
      simp only [h6] at h
      have f5 := iaddr_F (e := e_api_Cell) h6
      cases h9 : t_additiveref34_ahead v7 s1 with
      | none => (rw [h9] at h; cases h)
      | some v10 =>
        simp only [h9] at h
        have f8 := t_additiveref34_ahead_ok h9
        cases h12 : t_additiveref34_spot k0 v10 with
        | none => (rw [h12] at h; cases h)
        | some v13 =>
          simp only [h12] at h
          have f11 := t_additiveref34_spot_ok h12
          cases h16 : fget s0 k1 with
          | none => (rw [h16] at h; cases h)
          | some v17 =>
            simp only [h16] at h
            have f14 := iaddr_row (w := 4) h16
            have f15 := h16
            by_cases h19 : inB s1 4 = true
            · rw [if_pos h19] at h
              have f18 := iaddrA_off h19
              have f20 := @paste_A4 _ _ e_i64 _ v17 _ h19 [] [] v13
              simp only [A4.toL, cellsE, List.flatMap_cons, List.flatMap_nil, List.append_assoc, List.nil_append, List.cons_append, List.append_nil, List.length_cons, List.length_nil, Nat.zero_add, e_i64] at f20
              have f21 := @paste_rowA0 _ _ e_a4_i64 _ s0 k1 v17 (A4.set v17 s1 v13) f15 1 s1 [.int .i64 v13] (aOff_in h19 0 1 4 (by decide)) (by simp only [e_a4_i64]; exact f20)
              have f22 := in_rowA0 (w := 4) f15 1 1 s1 (aOff_in h19 0 1 4 (by decide))
              try simp at f22
              cases h
              show LK env [] 0 [0, 3, 4, 5] c66_L0 (some (t_additiveref34_table_L0_st _ _ _)) = LK env [] 0 [0, 3, 4, 5] c66_L0 (some (t_additiveref34_table_L0_st _ _ _))
              simp only [t_additiveref34_table_L0_st]
              rw [LK_step]
              simp (maxSteps := 4000000) [c4, f5, f8, f11, f14, f18, f21, f22, e_a4_i64, e_i64, e_sl_api_Row, e_sl_api_Run, e_additiveref34_seen, e_api_Cell, e_api_Region, e_api_Row, e_api_Run, e_comb_state, ↓c66_L0_u, ↓c66_L1_u, c66_0, c66_1, c66_2, c66_3, c66_4, c66_5, c66_6, c66_7, c66_9, c66_11]
            · rw [if_neg h19] at h; cases h
  · rw [if_neg c4] at h
    rw [Bool.not_eq_true] at c4
    cases h
    show LK env [] 0 [0, 3, 4, 5] c66_L0 (some (t_additiveref34_table_L0_st _ _ _)) = some (t_additiveref34_table_L0_out _ _ _)
    simp only [t_additiveref34_table_L0_st, t_additiveref34_table_L0_out]
    rw [LK_step]
    simp (maxSteps := 4000000) [c4, e_a4_i64, e_i64, e_sl_api_Row, e_sl_api_Run, e_additiveref34_seen, e_api_Cell, e_api_Region, e_api_Row, e_api_Run, e_comb_state, ↓c66_L0_u, ↓c66_L1_u, c66_0, c66_1, c66_2, c66_3, c66_4, c66_5, c66_6, c66_7, c66_9, c66_11]) bigN s r h
def t_additiveref34_table_L1 (k0 : (FS api_Cell)) (s : ((FS (A4 Int)) × Int)) : Option (LR ((FS (A4 Int)) × Int) (FS (A4 Int))) := match s with
 | (s0, s1) => (if (ilt s1 (flen k0)) = true then (match loopT (t_additiveref34_table_L0 k0 s1) bigN (s0, 0) with
 | none => none
 | some v24 => some (.nx (v24, (iadd .i64 s1 1))))
 else some (.dn s0))
def t_additiveref34_table_L1_st (k0 : (FS api_Cell)) (s : ((FS (A4 Int)) × Int)) : St := match s with
 | (s0, s1) => ⟨fr [(0, encF e_api_Cell k0), (3, .arr 3 0 0 s0.l.length), (4, .int .i64 s1)], hl [(3, .arr 0 4 84 (cellsE e_a4_i64 s0.l) false)]⟩
def t_additiveref34_table_L1_out (k0 : (FS api_Cell)) (x : (FS (A4 Int))) : LE × St := (.exit 0, ⟨fr [(3, .arr 3 0 0 x.l.length)], hl [(3, .arr 0 4 84 (cellsE e_a4_i64 x.l) false)]⟩)
theorem t_additiveref34_table_L1_ok {k0 : (FS api_Cell)} {s : ((FS (A4 Int)) × Int)} {r : (FS (A4 Int))} (h : loopT (t_additiveref34_table_L1 k0) bigN s = some r) : LK env [] 0 [0, 3, 4] c66_L1 (some (t_additiveref34_table_L1_st k0 s)) = some (t_additiveref34_table_L1_out k0 r) := loop_walk (st := t_additiveref34_table_L1_st k0) (out := t_additiveref34_table_L1_out k0) (by
  clear h s r
  rintro ⟨s0, s1⟩ x h
  simp only [t_additiveref34_table_L1] at h
  by_cases c3 : (ilt s1 (flen k0)) = true
  · rw [if_pos c3] at h
    cases h23 : loopT (t_additiveref34_table_L0 k0 s1) bigN (s0, 0) with
    | none => (rw [h23] at h; cases h)
    | some v24 =>
      simp only [h23] at h
      have f25 := t_additiveref34_table_L0_ok h23
      simp only [t_additiveref34_table_L0_st, t_additiveref34_table_L0_out, fset_len] at f25
      try simp only [fcase_nil, fcase_lst, fcase_fsnoc, fcase_fapp, fcase_fset, fcase_frep, fcase_flit, fcase_flst] at f25
      cases h
      show LK env [] 0 [0, 3, 4] c66_L1 (some (t_additiveref34_table_L1_st _ _)) = LK env [] 0 [0, 3, 4] c66_L1 (some (t_additiveref34_table_L1_st _ _))
      simp only [t_additiveref34_table_L1_st]
      rw [LK_step]
      try simp only [c3] at f25
      simp (maxSteps := 4000000) [c3, f25, e_a4_i64, e_i64, e_sl_api_Row, e_sl_api_Run, e_additiveref34_seen, e_api_Cell, e_api_Region, e_api_Row, e_api_Run, e_comb_state, ↓c66_L0_u, ↓c66_L1_u, c66_0, c66_1, c66_2, c66_3, c66_4, c66_5, c66_6, c66_7, c66_9, c66_11]
  · rw [if_neg c3] at h
    rw [Bool.not_eq_true] at c3
    cases h
    show LK env [] 0 [0, 3, 4] c66_L1 (some (t_additiveref34_table_L1_st _ _)) = some (t_additiveref34_table_L1_out _ _)
    simp only [t_additiveref34_table_L1_st, t_additiveref34_table_L1_out]
    rw [LK_step]
    simp (maxSteps := 4000000) [c3, e_a4_i64, e_i64, e_sl_api_Row, e_sl_api_Run, e_additiveref34_seen, e_api_Cell, e_api_Region, e_api_Row, e_api_Run, e_comb_state, ↓c66_L0_u, ↓c66_L1_u, c66_0, c66_1, c66_2, c66_3, c66_4, c66_5, c66_6, c66_7, c66_9, c66_11]) bigN s r h
def t_additiveref34_table (p0 : (FS api_Cell)) : Option (FS (A4 Int)) := (if mkOK 32 (flen p0) (flen p0) = true then (match loopT (t_additiveref34_table_L1 p0) bigN ((frep (⟨0, 0, 0, 0⟩ : (A4 Int)) (flen p0)), 0) with
 | none => none
 | some v27 => some (flst v27)) else none)
theorem t_additiveref34_table_ok {p0 : (FS api_Cell)} {r : (FS (A4 Int))} (h : t_additiveref34_table p0 = some r) : FC env 66 [encF e_api_Cell p0] none = some (encF e_a4_i64 r, fun _ => none) := by
  unfold t_additiveref34_table at h
  by_cases h2 : mkOK 32 (flen p0) (flen p0) = true
  · rw [if_pos h2] at h
    have f1 := fun H g0 hg => @mk_row _ _ e_a4_i64 _ (⟨0, 0, 0, 0⟩ : (A4 Int)) 32 _ _ h2 H g0 hg 84
    simp only [e_a4_i64] at f1
    cases h26 : loopT (t_additiveref34_table_L1 p0) bigN ((frep (⟨0, 0, 0, 0⟩ : (A4 Int)) (flen p0)), 0) with
    | none => (rw [h26] at h; cases h)
    | some v27 =>
      simp only [h26] at h
      have f28 := t_additiveref34_table_L1_ok h26
      simp only [t_additiveref34_table_L1_st, t_additiveref34_table_L1_out, fset_len] at f28
      try simp only [fcase_nil, fcase_lst, fcase_fsnoc, fcase_fapp, fcase_fset, fcase_frep, fcase_flit, fcase_flst] at f28
      cases h
      refine FC_pure (lf := lf66) rfl rfl rfl ?_
      simp only [lf66, lc66, c66_0, c66_1, c66_2, c66_3, c66_4, c66_5, c66_6, c66_7, c66_9, c66_11]
      simp (maxSteps := 4000000) [f1, f28, e_a4_i64, e_i64, e_sl_api_Row, e_sl_api_Run, e_additiveref34_seen, e_api_Cell, e_api_Region, e_api_Row, e_api_Run, e_comb_state, ↓c66_L0_u, ↓c66_L1_u, snap_rowD (e := e_a4_i64) (el := 84) (fz := false)]
  · rw [if_neg h2] at h; cases h

/-! additiveref34.layers -/
theorem c67_L0_u (Γ : Env) (ps : List Nat) (σ : St) : EC Γ ps 0 c67_L0 σ = EC Γ ps 0 (.seq (.seq (.reg false c67_10) (.cond (.t 42) .skip (.seq (.trim [0, 5, 6, 7, 8, 9]) (.exit 4)))) (.seq (.blk 5 (.seq (.reg false c67_11) (.seq (.reg false c67_12) (.cond (.t 62) (.seq (.reg false c67_13) (.reg false c67_14)) .skip)))) (.reg false c67_15))) σ := rfl
theorem c67_L1_u (Γ : Env) (ps : List Nat) (σ : St) : EC Γ ps 0 c67_L1 σ = EC Γ ps 0 (.seq (.seq (.reg false c67_8) (.cond (.t 38) .skip (.seq (.trim [0, 5, 6, 8]) (.exit 2)))) (.seq (.blk 3 (.seq (.reg false c67_9) (.blk 4 (.loop [0, 5, 6, 7, 8, 9, 10] c67_L0)))) (.reg false c67_17))) σ := rfl
theorem c67_L2_u (Γ : Env) (ps : List Nat) (σ : St) : EC Γ ps 0 c67_L2 σ = EC Γ ps 0 (.seq (.seq (.reg false c67_4) (.cond (.t 28) .skip (.seq (.trim [6]) (.exit 0)))) (.blk 1 (.seq (.reg false c67_5) (.seq (.reg false c67_6) (.seq (.seq (.reg false c67_7) (.blk 2 (.loop [0, 5, 6, 7, 8, 9] c67_L1))) (.reg false c67_19)))))) σ := rfl
def t_additiveref34_layers_L0 (k0 : (FS (A4 Int))) (k1 : (FS Int)) (k2 : Int) (s : ((FS Bool) × (FS (FS Int)) × (FS Int) × Int)) : Option (LR ((FS Bool) × (FS (FS Int)) × (FS Int) × Int) ((FS Bool) × (FS (FS Int)) × (FS Int))) := match s with
 | (s0, s1, s2, s3) => (if (ilt s3 4) = true then (match fget k1 k2 with
 | none => none
 | some v24 => (match fget k0 v24 with
 | none => none
 | some v27 => (if inB s3 4 = true then (match gOpt (ige (A4.get v27 s3) 0) (fget s0 (A4.get v27 s3)) with
 | none => none
 | some v34 => (if (band (ige (A4.get v27 s3) 0) (bnot (v34.getD false))) = true then (match fget s0 (A4.get v27 s3) with
 | none => none
 | some v40 => (if fits 8 ((flen s2) + 1) = true then some (.nx ((fset s0 (A4.get v27 s3) true), s1, (fsnoc s2 (A4.get v27 s3)), (iadd .i64 s3 1))) else none))
 else some (.nx (s0, s1, s2, (iadd .i64 s3 1))))) else none)))
 else some (.dn (s0, s1, s2)))
def t_additiveref34_layers_L0_st (k0 : (FS (A4 Int))) (k1 : (FS Int)) (k2 : Int) (s : ((FS Bool) × (FS (FS Int)) × (FS Int) × Int)) : St := match s with
 | (s0, s1, s2, s3) => (fcase s2 (⟨fr [(0, encF e_a4_i64 k0), (5, .arr 5 0 0 s0.l.length), (6, .arr 6 0 0 s1.l.length), (7, encF e_i64 k1), (8, .nils), (9, .int .i64 k2), (10, .int .i64 s3)], hl [(5, .arr 0 1 4 (cellsE e_bool s0.l) false), (6, .arr 0 1 38 (cellsE e_sl_i64 s1.l) false)]⟩)
  (fun l0 => ⟨fr [(0, encF e_a4_i64 k0), (5, .arr 5 0 0 s0.l.length), (6, .arr 6 0 0 s1.l.length), (7, encF e_i64 k1), (8, .arr 8 0 0 l0.l.length), (9, .int .i64 k2), (10, .int .i64 s3)], hl [(5, .arr 0 1 4 (cellsE e_bool s0.l) false), (6, .arr 0 1 38 (cellsE e_sl_i64 s1.l) false), (8, .arr 0 1 3 (cellsE e_i64 l0.l) false)]⟩))
def t_additiveref34_layers_L0_out (k0 : (FS (A4 Int))) (k1 : (FS Int)) (k2 : Int) (x : ((FS Bool) × (FS (FS Int)) × (FS Int))) : LE × St := (fcase x.2.2 (.exit 4, ⟨fr [(0, encF e_a4_i64 k0), (5, .arr 5 0 0 x.1.l.length), (6, .arr 6 0 0 x.2.1.l.length), (7, encF e_i64 k1), (8, .nils), (9, .int .i64 k2)], hl [(5, .arr 0 1 4 (cellsE e_bool x.1.l) false), (6, .arr 0 1 38 (cellsE e_sl_i64 x.2.1.l) false)]⟩)
  (fun l0 => (.exit 4, ⟨fr [(0, encF e_a4_i64 k0), (5, .arr 5 0 0 x.1.l.length), (6, .arr 6 0 0 x.2.1.l.length), (7, encF e_i64 k1), (8, .arr 8 0 0 l0.l.length), (9, .int .i64 k2)], hl [(5, .arr 0 1 4 (cellsE e_bool x.1.l) false), (6, .arr 0 1 38 (cellsE e_sl_i64 x.2.1.l) false), (8, .arr 0 1 3 (cellsE e_i64 l0.l) false)]⟩)))
theorem t_additiveref34_layers_L0_ok {k0 : (FS (A4 Int))} {k1 : (FS Int)} {k2 : Int} {s : ((FS Bool) × (FS (FS Int)) × (FS Int) × Int)} {r : ((FS Bool) × (FS (FS Int)) × (FS Int))} (h : loopT (t_additiveref34_layers_L0 k0 k1 k2) bigN s = some r) : LK env [] 0 [0, 5, 6, 7, 8, 9, 10] c67_L0 (some (t_additiveref34_layers_L0_st k0 k1 k2 s)) = some (t_additiveref34_layers_L0_out k0 k1 k2 r) := loop_walk (st := t_additiveref34_layers_L0_st k0 k1 k2) (out := t_additiveref34_layers_L0_out k0 k1 k2) (by
  clear h s r
  rintro ⟨s0, s1, s2, s3⟩ x h
  simp only [t_additiveref34_layers_L0] at h
  cases e24 : s2 with
  | nil =>
    try simp only [e24, flen_nil] at h
    by_cases c25 : (ilt s3 4) = true
    · rw [if_pos c25] at h
      cases h27 : fget k1 k2 with
      | none => (rw [h27] at h; cases h)
      | some v28 =>
        simp only [h27] at h
        have f26 := iaddr_F (e := e_i64) h27
        cases h30 : fget k0 v28 with
        | none => (rw [h30] at h; cases h)
        | some v31 =>
          simp only [h30] at h
          have f29 := iaddr_F (e := e_a4_i64) h30
          by_cases h33 : inB s3 4 = true
          · rw [if_pos h33] at h
            have f32 := iaddrA_r h33
            have f34 := fun R => (pack_drop false _ _ _ (by decide)).trans (@pack_A4 _ _ e_i64 _ v31 _ h33 [] ([] ++ R) (by decide) false)
            simp only [A4.toL, cellsE, List.flatMap_cons, List.flatMap_nil, List.append_assoc, List.nil_append, List.cons_append, List.append_nil, List.length_cons, List.length_nil, Nat.zero_add, e_i64] at f34
            cases h37 : gOpt (ige (A4.get v31 s3) 0) (fget s0 (A4.get v31 s3)) with
            | none => (rw [h37] at h; cases h)
            | some v38 =>
              simp only [h37] at h
              have f35 := fun (q0 : (ige (A4.get v31 s3) 0) = true) => iaddr_row (w := 1) (gOpt_getD false h37 q0)
              have f36 := fun (q0 : (ige (A4.get v31 s3) 0) = true) => (gOpt_getD false h37 q0)
              have f39 := fun (q0 : (ige (A4.get v31 s3) 0) = true) => (pack_row0 (e := e_bool) (f36 q0) false 1 (by decide) (by decide))
              simp only [e_bool] at f39
              by_cases c40 : (band (ige (A4.get v31 s3) 0) (bnot (v38.getD false))) = true
              · rw [if_pos c40] at h
                cases h43 : fget s0 (A4.get v31 s3) with
                | none => (rw [h43] at h; cases h)
                | some v44 =>
                  simp only [h43] at h
                  have f41 := iaddr_row (w := 1) h43
                  have f42 := h43
                  have f45 := fun (q0 : (ige (A4.get v31 s3) 0) = true) => gOpt_eqD false h37 q0 h43
                  have f46 := @paste_row0 _ _ e_bool _ s0 (A4.get v31 s3) v44 true f42 [.bool true] (by simp) (by simp [e_bool])
                  have f47 := in_row0 (w := 1) f42 1 (by decide)
                  try simp at f47
                  by_cases h49 : fits 8 (0 + 1) = true
                  · rw [if_pos h49] at h
                    have f48 := fun H g0 hg y => @app_nil _ _ e_i64 _ (A4.get v31 s3) 8 h49 (by decide) H g0 3 y hg
                    simp only [e_i64] at f48
                    cases h
                    show LK env [] 0 [0, 5, 6, 7, 8, 9, 10] c67_L0 (some (t_additiveref34_layers_L0_st _ _ _ _)) = LK env [] 0 [0, 5, 6, 7, 8, 9, 10] c67_L0 (some (t_additiveref34_layers_L0_st _ _ _ _))
                    simp only [t_additiveref34_layers_L0_st, e24]
                    rw [LK_step]
                    rcases tof (ige (A4.get v31 s3) 0) with a50 | a50
                    · rcases tof (v38.getD false) with a51 | a51
                      · simp [c25, a50, a51] at c40
                      · have gf45 := f45 (by simp [c25, a50, a51])
                        try simp only [gf45] at f26 f29 f32 f34 f35 f39 f41 f46 f47 f48 c25 a50 a51
                        simp (maxSteps := 4000000) [c25, a50, a51, gf45, e24, f26, f29, f32, f34, f35, f39, f41, f46, f47, f48, e_a4_i64, e_bool, e_i64, e_sl_api_Row, e_sl_api_Run, e_sl_i64, e_additiveref34_seen, e_api_Cell, e_api_Region, e_api_Row, e_api_Run, e_comb_state, ↓c67_L0_u, ↓c67_L1_u, ↓c67_L2_u, c67_0, c67_1, c67_2, c67_3, c67_4, c67_5, c67_6, c67_7, c67_8, c67_9, c67_10, c67_11, c67_12, c67_13, c67_14, c67_15, c67_17, c67_19, c67_21]
                    · simp [c25, a50] at c40
                  · rw [if_neg h49] at h; cases h
              · rw [if_neg c40] at h
                rw [Bool.not_eq_true] at c40
                cases h
                show LK env [] 0 [0, 5, 6, 7, 8, 9, 10] c67_L0 (some (t_additiveref34_layers_L0_st _ _ _ _)) = LK env [] 0 [0, 5, 6, 7, 8, 9, 10] c67_L0 (some (t_additiveref34_layers_L0_st _ _ _ _))
                simp only [t_additiveref34_layers_L0_st, e24]
                rw [LK_step]
                rcases tof (ige (A4.get v31 s3) 0) with a52 | a52
                · rcases tof (v38.getD false) with a53 | a53
                  · simp (maxSteps := 4000000) [c25, a52, a53, e24, f26, f29, f32, f34, f35, f39, e_a4_i64, e_bool, e_i64, e_sl_api_Row, e_sl_api_Run, e_sl_i64, e_additiveref34_seen, e_api_Cell, e_api_Region, e_api_Row, e_api_Run, e_comb_state, ↓c67_L0_u, ↓c67_L1_u, ↓c67_L2_u, c67_0, c67_1, c67_2, c67_3, c67_4, c67_5, c67_6, c67_7, c67_8, c67_9, c67_10, c67_11, c67_12, c67_13, c67_14, c67_15, c67_17, c67_19, c67_21]
                  · simp [c25, a52, a53] at c40
                · simp (maxSteps := 4000000) [c25, a52, e24, f26, f29, f32, f34, f35, f39, e_a4_i64, e_bool, e_i64, e_sl_api_Row, e_sl_api_Run, e_sl_i64, e_additiveref34_seen, e_api_Cell, e_api_Region, e_api_Row, e_api_Run, e_comb_state, ↓c67_L0_u, ↓c67_L1_u, ↓c67_L2_u, c67_0, c67_1, c67_2, c67_3, c67_4, c67_5, c67_6, c67_7, c67_8, c67_9, c67_10, c67_11, c67_12, c67_13, c67_14, c67_15, c67_17, c67_19, c67_21]
          · rw [if_neg h33] at h; cases h
    · rw [if_neg c25] at h
      rw [Bool.not_eq_true] at c25
      cases h
      show LK env [] 0 [0, 5, 6, 7, 8, 9, 10] c67_L0 (some (t_additiveref34_layers_L0_st _ _ _ _)) = some (t_additiveref34_layers_L0_out _ _ _ _)
      simp only [t_additiveref34_layers_L0_st, t_additiveref34_layers_L0_out, e24]
      rw [LK_step]
      simp (maxSteps := 4000000) [c25, e24, e_a4_i64, e_bool, e_i64, e_sl_api_Row, e_sl_api_Run, e_sl_i64, e_additiveref34_seen, e_api_Cell, e_api_Region, e_api_Row, e_api_Run, e_comb_state, ↓c67_L0_u, ↓c67_L1_u, ↓c67_L2_u, c67_0, c67_1, c67_2, c67_3, c67_4, c67_5, c67_6, c67_7, c67_8, c67_9, c67_10, c67_11, c67_12, c67_13, c67_14, c67_15, c67_17, c67_19, c67_21]
  | lst l23 =>
    try simp only [e24] at h
    by_cases c54 : (ilt s3 4) = true
    · rw [if_pos c54] at h
      cases h56 : fget k1 k2 with
      | none => (rw [h56] at h; cases h)
      | some v57 =>
        simp only [h56] at h
        have f55 := iaddr_F (e := e_i64) h56
        cases h59 : fget k0 v57 with
        | none => (rw [h59] at h; cases h)
        | some v60 =>
          simp only [h59] at h
          have f58 := iaddr_F (e := e_a4_i64) h59
          by_cases h62 : inB s3 4 = true
          · rw [if_pos h62] at h
            have f61 := iaddrA_r h62
            have f63 := fun R => (pack_drop false _ _ _ (by decide)).trans (@pack_A4 _ _ e_i64 _ v60 _ h62 [] ([] ++ R) (by decide) false)
            simp only [A4.toL, cellsE, List.flatMap_cons, List.flatMap_nil, List.append_assoc, List.nil_append, List.cons_append, List.append_nil, List.length_cons, List.length_nil, Nat.zero_add, e_i64] at f63
            cases h66 : gOpt (ige (A4.get v60 s3) 0) (fget s0 (A4.get v60 s3)) with
            | none => (rw [h66] at h; cases h)
            | some v67 =>
              simp only [h66] at h
              have f64 := fun (q0 : (ige (A4.get v60 s3) 0) = true) => iaddr_row (w := 1) (gOpt_getD false h66 q0)
              have f65 := fun (q0 : (ige (A4.get v60 s3) 0) = true) => (gOpt_getD false h66 q0)
              have f68 := fun (q0 : (ige (A4.get v60 s3) 0) = true) => (pack_row0 (e := e_bool) (f65 q0) false 1 (by decide) (by decide))
              simp only [e_bool] at f68
              by_cases c69 : (band (ige (A4.get v60 s3) 0) (bnot (v67.getD false))) = true
              · rw [if_pos c69] at h
                cases h72 : fget s0 (A4.get v60 s3) with
                | none => (rw [h72] at h; cases h)
                | some v73 =>
                  simp only [h72] at h
                  have f70 := iaddr_row (w := 1) h72
                  have f71 := h72
                  have f74 := fun (q0 : (ige (A4.get v60 s3) 0) = true) => gOpt_eqD false h66 q0 h72
                  have f75 := @paste_row0 _ _ e_bool _ s0 (A4.get v60 s3) v73 true f71 [.bool true] (by simp) (by simp [e_bool])
                  have f76 := in_row0 (w := 1) f71 1 (by decide)
                  try simp at f76
                  by_cases h78 : fits 8 ((flen (FS.lst l23)) + 1) = true
                  · rw [if_pos h78] at h
                    have f77 := fun g0 H y => @app_row1 _ _ e_i64 _ (FS.lst l23) (A4.get v60 s3) 8 h78 (by decide) g0 H 8 0 3 y
                    simp only [e_i64] at f77
                    cases h
                    show LK env [] 0 [0, 5, 6, 7, 8, 9, 10] c67_L0 (some (t_additiveref34_layers_L0_st _ _ _ _)) = LK env [] 0 [0, 5, 6, 7, 8, 9, 10] c67_L0 (some (t_additiveref34_layers_L0_st _ _ _ _))
                    simp only [t_additiveref34_layers_L0_st, e24]
                    rw [LK_step]
                    rcases tof (ige (A4.get v60 s3) 0) with a79 | a79
                    · rcases tof (v67.getD false) with a80 | a80
                      · simp [c54, a79, a80] at c69
                      · have gf74 := f74 (by simp [c54, a79, a80])
                        try simp only [gf74] at f55 f58 f61 f63 f64 f68 f70 f75 f76 f77 c54 a79 a80
                        simp (maxSteps := 4000000) [c54, a79, a80, gf74, e24, f55, f58, f61, f63, f64, f68, f70, f75, f76, f77, e_a4_i64, e_bool, e_i64, e_sl_api_Row, e_sl_api_Run, e_sl_i64, e_additiveref34_seen, e_api_Cell, e_api_Region, e_api_Row, e_api_Run, e_comb_state, ↓c67_L0_u, ↓c67_L1_u, ↓c67_L2_u, c67_0, c67_1, c67_2, c67_3, c67_4, c67_5, c67_6, c67_7, c67_8, c67_9, c67_10, c67_11, c67_12, c67_13, c67_14, c67_15, c67_17, c67_19, c67_21]
                    · simp [c54, a79] at c69
                  · rw [if_neg h78] at h; cases h
              · rw [if_neg c69] at h
                rw [Bool.not_eq_true] at c69
                cases h
                show LK env [] 0 [0, 5, 6, 7, 8, 9, 10] c67_L0 (some (t_additiveref34_layers_L0_st _ _ _ _)) = LK env [] 0 [0, 5, 6, 7, 8, 9, 10] c67_L0 (some (t_additiveref34_layers_L0_st _ _ _ _))
                simp only [t_additiveref34_layers_L0_st, e24]
                rw [LK_step]
                rcases tof (ige (A4.get v60 s3) 0) with a81 | a81
                · rcases tof (v67.getD false) with a82 | a82
                  · simp (maxSteps := 4000000) [c54, a81, a82, e24, f55, f58, f61, f63, f64, f68, e_a4_i64, e_bool, e_i64, e_sl_api_Row, e_sl_api_Run, e_sl_i64, e_additiveref34_seen, e_api_Cell, e_api_Region, e_api_Row, e_api_Run, e_comb_state, ↓c67_L0_u, ↓c67_L1_u, ↓c67_L2_u, c67_0, c67_1, c67_2, c67_3, c67_4, c67_5, c67_6, c67_7, c67_8, c67_9, c67_10, c67_11, c67_12, c67_13, c67_14, c67_15, c67_17, c67_19, c67_21]
                  · simp [c54, a81, a82] at c69
                · simp (maxSteps := 4000000) [c54, a81, e24, f55, f58, f61, f63, f64, f68, e_a4_i64, e_bool, e_i64, e_sl_api_Row, e_sl_api_Run, e_sl_i64, e_additiveref34_seen, e_api_Cell, e_api_Region, e_api_Row, e_api_Run, e_comb_state, ↓c67_L0_u, ↓c67_L1_u, ↓c67_L2_u, c67_0, c67_1, c67_2, c67_3, c67_4, c67_5, c67_6, c67_7, c67_8, c67_9, c67_10, c67_11, c67_12, c67_13, c67_14, c67_15, c67_17, c67_19, c67_21]
          · rw [if_neg h62] at h; cases h
    · rw [if_neg c54] at h
      rw [Bool.not_eq_true] at c54
      cases h
      show LK env [] 0 [0, 5, 6, 7, 8, 9, 10] c67_L0 (some (t_additiveref34_layers_L0_st _ _ _ _)) = some (t_additiveref34_layers_L0_out _ _ _ _)
      simp only [t_additiveref34_layers_L0_st, t_additiveref34_layers_L0_out, e24]
      rw [LK_step]
      simp (maxSteps := 4000000) [c54, e24, e_a4_i64, e_bool, e_i64, e_sl_api_Row, e_sl_api_Run, e_sl_i64, e_additiveref34_seen, e_api_Cell, e_api_Region, e_api_Row, e_api_Run, e_comb_state, ↓c67_L0_u, ↓c67_L1_u, ↓c67_L2_u, c67_0, c67_1, c67_2, c67_3, c67_4, c67_5, c67_6, c67_7, c67_8, c67_9, c67_10, c67_11, c67_12, c67_13, c67_14, c67_15, c67_17, c67_19, c67_21]) bigN s r h
def t_additiveref34_layers_L1 (k0 : (FS (A4 Int))) (k1 : (FS Int)) (s : ((FS Bool) × (FS (FS Int)) × (FS Int) × Int)) : Option (LR ((FS Bool) × (FS (FS Int)) × (FS Int) × Int) ((FS Bool) × (FS (FS Int)) × (FS Int))) := match s with
 | (s0, s1, s2, s3) => (if (ilt s3 (flen k1)) = true then (match loopT (t_additiveref34_layers_L0 k0 k1 s3) bigN (s0, s1, s2, 0) with
 | none => none
 | some v47 => some (.nx (v47.1, v47.2.1, v47.2.2, (iadd .i64 s3 1))))
 else some (.dn (s0, s1, s2)))
def t_additiveref34_layers_L1_st (k0 : (FS (A4 Int))) (k1 : (FS Int)) (s : ((FS Bool) × (FS (FS Int)) × (FS Int) × Int)) : St := match s with
 | (s0, s1, s2, s3) => (fcase s2 (⟨fr [(0, encF e_a4_i64 k0), (5, .arr 5 0 0 s0.l.length), (6, .arr 6 0 0 s1.l.length), (7, encF e_i64 k1), (8, .nils), (9, .int .i64 s3)], hl [(5, .arr 0 1 4 (cellsE e_bool s0.l) false), (6, .arr 0 1 38 (cellsE e_sl_i64 s1.l) false)]⟩)
  (fun l0 => ⟨fr [(0, encF e_a4_i64 k0), (5, .arr 5 0 0 s0.l.length), (6, .arr 6 0 0 s1.l.length), (7, encF e_i64 k1), (8, .arr 8 0 0 l0.l.length), (9, .int .i64 s3)], hl [(5, .arr 0 1 4 (cellsE e_bool s0.l) false), (6, .arr 0 1 38 (cellsE e_sl_i64 s1.l) false), (8, .arr 0 1 3 (cellsE e_i64 l0.l) false)]⟩))
def t_additiveref34_layers_L1_out (k0 : (FS (A4 Int))) (k1 : (FS Int)) (x : ((FS Bool) × (FS (FS Int)) × (FS Int))) : LE × St := (fcase x.2.2 (.exit 2, ⟨fr [(0, encF e_a4_i64 k0), (5, .arr 5 0 0 x.1.l.length), (6, .arr 6 0 0 x.2.1.l.length), (8, .nils)], hl [(5, .arr 0 1 4 (cellsE e_bool x.1.l) false), (6, .arr 0 1 38 (cellsE e_sl_i64 x.2.1.l) false)]⟩)
  (fun l0 => (.exit 2, ⟨fr [(0, encF e_a4_i64 k0), (5, .arr 5 0 0 x.1.l.length), (6, .arr 6 0 0 x.2.1.l.length), (8, .arr 8 0 0 l0.l.length)], hl [(5, .arr 0 1 4 (cellsE e_bool x.1.l) false), (6, .arr 0 1 38 (cellsE e_sl_i64 x.2.1.l) false), (8, .arr 0 1 3 (cellsE e_i64 l0.l) false)]⟩)))
theorem t_additiveref34_layers_L1_ok {k0 : (FS (A4 Int))} {k1 : (FS Int)} {s : ((FS Bool) × (FS (FS Int)) × (FS Int) × Int)} {r : ((FS Bool) × (FS (FS Int)) × (FS Int))} (h : loopT (t_additiveref34_layers_L1 k0 k1) bigN s = some r) : LK env [] 0 [0, 5, 6, 7, 8, 9] c67_L1 (some (t_additiveref34_layers_L1_st k0 k1 s)) = some (t_additiveref34_layers_L1_out k0 k1 r) := loop_walk (st := t_additiveref34_layers_L1_st k0 k1) (out := t_additiveref34_layers_L1_out k0 k1) (by
  clear h s r
  rintro ⟨s0, s1, s2, s3⟩ x h
  simp only [t_additiveref34_layers_L1] at h
  cases e21 : s2 with
  | nil =>
    try simp only [e21, flen_nil] at h
    by_cases c22 : (ilt s3 (flen k1)) = true
    · rw [if_pos c22] at h
      cases h83 : loopT (t_additiveref34_layers_L0 k0 k1 s3) bigN (s0, s1, (FS.nil : (FS Int)), 0) with
      | none => (rw [h83] at h; cases h)
      | some v84 =>
        simp only [h83] at h
        have f85 := t_additiveref34_layers_L0_ok h83
        simp only [t_additiveref34_layers_L0_st, t_additiveref34_layers_L0_out, fset_len] at f85
        cases e87 : v84.2.2 with
        | nil =>
          try simp only [e87, flen_nil] at h
          simp only [e87, flen_nil, fcase_nil, fcase_lst] at f85
          cases h
          show LK env [] 0 [0, 5, 6, 7, 8, 9] c67_L1 (some (t_additiveref34_layers_L1_st _ _ _)) = LK env [] 0 [0, 5, 6, 7, 8, 9] c67_L1 (some (t_additiveref34_layers_L1_st _ _ _))
          simp only [t_additiveref34_layers_L1_st, e21]
          rw [LK_step]
          try simp only [c22] at f85
          simp (maxSteps := 4000000) [c22, e21, f85, e87, e_a4_i64, e_bool, e_i64, e_sl_api_Row, e_sl_api_Run, e_sl_i64, e_additiveref34_seen, e_api_Cell, e_api_Region, e_api_Row, e_api_Run, e_comb_state, ↓c67_L0_u, ↓c67_L1_u, ↓c67_L2_u, c67_0, c67_1, c67_2, c67_3, c67_4, c67_5, c67_6, c67_7, c67_8, c67_9, c67_10, c67_11, c67_12, c67_13, c67_14, c67_15, c67_17, c67_19, c67_21]
        | lst l86 =>
          try simp only [e87] at h
          simp only [e87, flen_nil, fcase_nil, fcase_lst] at f85
          cases h
          show LK env [] 0 [0, 5, 6, 7, 8, 9] c67_L1 (some (t_additiveref34_layers_L1_st _ _ _)) = LK env [] 0 [0, 5, 6, 7, 8, 9] c67_L1 (some (t_additiveref34_layers_L1_st _ _ _))
          simp only [t_additiveref34_layers_L1_st, e21]
          rw [LK_step]
          try simp only [c22] at f85
          simp (maxSteps := 4000000) [c22, e21, f85, e87, e_a4_i64, e_bool, e_i64, e_sl_api_Row, e_sl_api_Run, e_sl_i64, e_additiveref34_seen, e_api_Cell, e_api_Region, e_api_Row, e_api_Run, e_comb_state, ↓c67_L0_u, ↓c67_L1_u, ↓c67_L2_u, c67_0, c67_1, c67_2, c67_3, c67_4, c67_5, c67_6, c67_7, c67_8, c67_9, c67_10, c67_11, c67_12, c67_13, c67_14, c67_15, c67_17, c67_19, c67_21]
    · rw [if_neg c22] at h
      rw [Bool.not_eq_true] at c22
      cases h
      show LK env [] 0 [0, 5, 6, 7, 8, 9] c67_L1 (some (t_additiveref34_layers_L1_st _ _ _)) = some (t_additiveref34_layers_L1_out _ _ _)
      simp only [t_additiveref34_layers_L1_st, t_additiveref34_layers_L1_out, e21]
      rw [LK_step]
      simp (maxSteps := 4000000) [c22, e21, e_a4_i64, e_bool, e_i64, e_sl_api_Row, e_sl_api_Run, e_sl_i64, e_additiveref34_seen, e_api_Cell, e_api_Region, e_api_Row, e_api_Run, e_comb_state, ↓c67_L0_u, ↓c67_L1_u, ↓c67_L2_u, c67_0, c67_1, c67_2, c67_3, c67_4, c67_5, c67_6, c67_7, c67_8, c67_9, c67_10, c67_11, c67_12, c67_13, c67_14, c67_15, c67_17, c67_19, c67_21]
  | lst l20 =>
    try simp only [e21] at h
    by_cases c88 : (ilt s3 (flen k1)) = true
    · rw [if_pos c88] at h
      cases h89 : loopT (t_additiveref34_layers_L0 k0 k1 s3) bigN (s0, s1, (FS.lst l20), 0) with
      | none => (rw [h89] at h; cases h)
      | some v90 =>
        simp only [h89] at h
        have f91 := t_additiveref34_layers_L0_ok h89
        simp only [t_additiveref34_layers_L0_st, t_additiveref34_layers_L0_out, fset_len] at f91
        cases e93 : v90.2.2 with
        | nil =>
          try simp only [e93, flen_nil] at h
          simp only [e93, flen_nil, fcase_nil, fcase_lst] at f91
          cases h
          show LK env [] 0 [0, 5, 6, 7, 8, 9] c67_L1 (some (t_additiveref34_layers_L1_st _ _ _)) = LK env [] 0 [0, 5, 6, 7, 8, 9] c67_L1 (some (t_additiveref34_layers_L1_st _ _ _))
          simp only [t_additiveref34_layers_L1_st, e21]
          rw [LK_step]
          try simp only [c88] at f91
          simp (maxSteps := 4000000) [c88, e21, f91, e93, e_a4_i64, e_bool, e_i64, e_sl_api_Row, e_sl_api_Run, e_sl_i64, e_additiveref34_seen, e_api_Cell, e_api_Region, e_api_Row, e_api_Run, e_comb_state, ↓c67_L0_u, ↓c67_L1_u, ↓c67_L2_u, c67_0, c67_1, c67_2, c67_3, c67_4, c67_5, c67_6, c67_7, c67_8, c67_9, c67_10, c67_11, c67_12, c67_13, c67_14, c67_15, c67_17, c67_19, c67_21]
        | lst l92 =>
          try simp only [e93] at h
          simp only [e93, flen_nil, fcase_nil, fcase_lst] at f91
          cases h
          show LK env [] 0 [0, 5, 6, 7, 8, 9] c67_L1 (some (t_additiveref34_layers_L1_st _ _ _)) = LK env [] 0 [0, 5, 6, 7, 8, 9] c67_L1 (some (t_additiveref34_layers_L1_st _ _ _))
          simp only [t_additiveref34_layers_L1_st, e21]
          rw [LK_step]
          try simp only [c88] at f91
          simp (maxSteps := 4000000) [c88, e21, f91, e93, e_a4_i64, e_bool, e_i64, e_sl_api_Row, e_sl_api_Run, e_sl_i64, e_additiveref34_seen, e_api_Cell, e_api_Region, e_api_Row, e_api_Run, e_comb_state, ↓c67_L0_u, ↓c67_L1_u, ↓c67_L2_u, c67_0, c67_1, c67_2, c67_3, c67_4, c67_5, c67_6, c67_7, c67_8, c67_9, c67_10, c67_11, c67_12, c67_13, c67_14, c67_15, c67_17, c67_19, c67_21]
    · rw [if_neg c88] at h
      rw [Bool.not_eq_true] at c88
      cases h
      show LK env [] 0 [0, 5, 6, 7, 8, 9] c67_L1 (some (t_additiveref34_layers_L1_st _ _ _)) = some (t_additiveref34_layers_L1_out _ _ _)
      simp only [t_additiveref34_layers_L1_st, t_additiveref34_layers_L1_out, e21]
      rw [LK_step]
      simp (maxSteps := 4000000) [c88, e21, e_a4_i64, e_bool, e_i64, e_sl_api_Row, e_sl_api_Run, e_sl_i64, e_additiveref34_seen, e_api_Cell, e_api_Region, e_api_Row, e_api_Run, e_comb_state, ↓c67_L0_u, ↓c67_L1_u, ↓c67_L2_u, c67_0, c67_1, c67_2, c67_3, c67_4, c67_5, c67_6, c67_7, c67_8, c67_9, c67_10, c67_11, c67_12, c67_13, c67_14, c67_15, c67_17, c67_19, c67_21]) bigN s r h
def t_additiveref34_layers_L2 (k0 : (FS (A4 Int))) (s : ((FS Bool) × (FS (FS Int)))) : Option (LR ((FS Bool) × (FS (FS Int))) (FS (FS Int))) := match s with
 | (s0, s1) => (match fget s1 (isub .i64 (flen s1) 1) with
 | none => none
 | some v14 => (if (igt (flen v14) 0) = true then (match loopT (t_additiveref34_layers_L1 k0 v14) bigN (s0, s1, (FS.nil : (FS Int)), 0) with
 | none => none
 | some v50 => (if fits 24 ((flen v50.2.1) + 1) = true then some (.nx (v50.1, (fsnoc v50.2.1 v50.2.2))) else none))
 else some (.dn s1)))
def t_additiveref34_layers_L2_st (k0 : (FS (A4 Int))) (s : ((FS Bool) × (FS (FS Int)))) : St := match s with
 | (s0, s1) => ⟨fr [(0, encF e_a4_i64 k0), (5, .arr 5 0 0 s0.l.length), (6, .arr 6 0 0 s1.l.length)], hl [(5, .arr 0 1 4 (cellsE e_bool s0.l) false), (6, .arr 0 1 38 (cellsE e_sl_i64 s1.l) false)]⟩
def t_additiveref34_layers_L2_out (k0 : (FS (A4 Int))) (x : (FS (FS Int))) : LE × St := (.exit 0, ⟨fr [(6, .arr 6 0 0 x.l.length)], hl [(6, .arr 0 1 38 (cellsE e_sl_i64 x.l) false)]⟩)
theorem t_additiveref34_layers_L2_ok {k0 : (FS (A4 Int))} {s : ((FS Bool) × (FS (FS Int)))} {r : (FS (FS Int))} (h : loopT (t_additiveref34_layers_L2 k0) bigN s = some r) : LK env [] 0 [0, 5, 6] c67_L2 (some (t_additiveref34_layers_L2_st k0 s)) = some (t_additiveref34_layers_L2_out k0 r) := loop_walk (st := t_additiveref34_layers_L2_st k0) (out := t_additiveref34_layers_L2_out k0) (by
  clear h s r
  rintro ⟨s0, s1⟩ x h
  simp only [t_additiveref34_layers_L2] at h
  cases h13 : fget s1 (isub .i64 (flen s1) 1) with
  | none => (rw [h13] at h; cases h)
  | some v14 =>
    simp only [h13] at h
    have f11 := iaddr_row (w := 1) h13
    have f12 := h13
    have f15 := (pack_row0 (e := e_sl_i64) f12 false 1 (by decide) (by decide))
    simp only [e_sl_i64] at f15
    by_cases c16 : (igt (flen v14) 0) = true
    · rw [if_pos c16] at h
      have f19 := (pack_row0 (e := e_sl_i64) f12 false 1 (by decide) (by decide))
      simp only [e_sl_i64] at f19
      cases h94 : loopT (t_additiveref34_layers_L1 k0 v14) bigN (s0, s1, (FS.nil : (FS Int)), 0) with
      | none => (rw [h94] at h; cases h)
      | some v95 =>
        simp only [h94] at h
        have f96 := t_additiveref34_layers_L1_ok h94
        simp only [t_additiveref34_layers_L1_st, t_additiveref34_layers_L1_out, fset_len] at f96
        cases e98 : v95.2.2 with
        | nil =>
          try simp only [e98, flen_nil] at h
          simp only [e98, flen_nil, fcase_nil, fcase_lst] at f96
          by_cases h100 : fits 24 ((flen v95.2.1) + 1) = true
          · rw [if_pos h100] at h
            have f99 := fun g0 H y => @app_row1 _ _ e_sl_i64 _ v95.2.1 (FS.nil : (FS Int)) 24 h100 (by decide) g0 H 6 0 38 y
            simp only [e_sl_i64, encF_nil] at f99
            cases h
            show LK env [] 0 [0, 5, 6] c67_L2 (some (t_additiveref34_layers_L2_st _ _)) = LK env [] 0 [0, 5, 6] c67_L2 (some (t_additiveref34_layers_L2_st _ _))
            simp only [t_additiveref34_layers_L2_st]
            rw [LK_step]
            try simp only [c16] at f96
            simp (maxSteps := 4000000) [c16, f11, f15, f19, f96, e98, f99, e_a4_i64, e_bool, e_i64, e_sl_api_Row, e_sl_api_Run, e_sl_i64, e_additiveref34_seen, e_api_Cell, e_api_Region, e_api_Row, e_api_Run, e_comb_state, ↓c67_L0_u, ↓c67_L1_u, ↓c67_L2_u, c67_0, c67_1, c67_2, c67_3, c67_4, c67_5, c67_6, c67_7, c67_8, c67_9, c67_10, c67_11, c67_12, c67_13, c67_14, c67_15, c67_17, c67_19, c67_21]
          · rw [if_neg h100] at h; cases h
        | lst l97 =>
          try simp only [e98] at h
          simp only [e98, flen_nil, fcase_nil, fcase_lst] at f96
          by_cases h102 : fits 24 ((flen v95.2.1) + 1) = true
          · rw [if_pos h102] at h
            have f101 := fun g0 H y => @app_row1 _ _ e_sl_i64 _ v95.2.1 (FS.lst l97) 24 h102 (by decide) g0 H 6 0 38 y
            simp only [e_sl_i64] at f101
            cases h
            show LK env [] 0 [0, 5, 6] c67_L2 (some (t_additiveref34_layers_L2_st _ _)) = LK env [] 0 [0, 5, 6] c67_L2 (some (t_additiveref34_layers_L2_st _ _))
            simp only [t_additiveref34_layers_L2_st]
            rw [LK_step]
            try simp only [c16] at f96
            simp (maxSteps := 4000000) [c16, f11, f15, f19, f96, e98, snap_rowD (e := e_i64) (el := 3) (fz := false), f101, e_a4_i64, e_bool, e_i64, e_sl_api_Row, e_sl_api_Run, e_sl_i64, e_additiveref34_seen, e_api_Cell, e_api_Region, e_api_Row, e_api_Run, e_comb_state, ↓c67_L0_u, ↓c67_L1_u, ↓c67_L2_u, c67_0, c67_1, c67_2, c67_3, c67_4, c67_5, c67_6, c67_7, c67_8, c67_9, c67_10, c67_11, c67_12, c67_13, c67_14, c67_15, c67_17, c67_19, c67_21]
          · rw [if_neg h102] at h; cases h
    · rw [if_neg c16] at h
      rw [Bool.not_eq_true] at c16
      cases h
      show LK env [] 0 [0, 5, 6] c67_L2 (some (t_additiveref34_layers_L2_st _ _)) = some (t_additiveref34_layers_L2_out _ _)
      simp only [t_additiveref34_layers_L2_st, t_additiveref34_layers_L2_out]
      rw [LK_step]
      simp (maxSteps := 4000000) [c16, f11, f15, e_a4_i64, e_bool, e_i64, e_sl_api_Row, e_sl_api_Run, e_sl_i64, e_additiveref34_seen, e_api_Cell, e_api_Region, e_api_Row, e_api_Run, e_comb_state, ↓c67_L0_u, ↓c67_L1_u, ↓c67_L2_u, c67_0, c67_1, c67_2, c67_3, c67_4, c67_5, c67_6, c67_7, c67_8, c67_9, c67_10, c67_11, c67_12, c67_13, c67_14, c67_15, c67_17, c67_19, c67_21]) bigN s r h
def t_additiveref34_layers (p0 : (FS (A4 Int))) (p1 : Int) : Option (FS (FS Int)) := (if mkOK 1 (flen p0) (flen p0) = true then (match fget (frep false (flen p0)) p1 with
 | none => none
 | some v6 => (match loopT (t_additiveref34_layers_L2 p0) bigN ((fset (frep false (flen p0)) p1 true), (flit ([(flit ([p1] : List Int))] : List (FS Int)))) with
 | none => none
 | some v55 => some (flst v55))) else none)
theorem t_additiveref34_layers_ok {p0 : (FS (A4 Int))} {p1 : Int} {r : (FS (FS Int))} (h : t_additiveref34_layers p0 p1 = some r) : FC env 67 [encF e_a4_i64 p0, .int .i64 p1] none = some (encF e_sl_i64 r, fun _ => none) := by
  unfold t_additiveref34_layers at h
  by_cases h2 : mkOK 1 (flen p0) (flen p0) = true
  · rw [if_pos h2] at h
    have f1 := fun H g0 hg => @mk_row _ _ e_bool _ false 1 _ _ h2 H g0 hg 4
    simp only [e_bool] at f1
    cases h5 : fget (frep false (flen p0)) p1 with
    | none => (rw [h5] at h; cases h)
    | some v6 =>
      simp only [h5] at h
      have f3 := iaddr_row (w := 1) h5
      have f4 := h5
      have f7 := @paste_row0 _ _ e_bool _ (frep false (flen p0)) p1 v6 true f4 [.bool true] (by simp) (by simp [e_bool])
      have f8 := in_row0 (w := 1) f4 1 (by decide)
      try simp at f8
      have f9 := fun (H : Heap) (g0 : Nat) => bszV_ok (e := e_i64) H g0 1 1 3 [p1] [.int .i64 p1] rfl (by simp [e_i64]) rfl rfl
      have f10 : ∀ (H : Heap) (g0 : Nat), bslV H g0 1 1 38 (some [encF e_i64 (flit ([p1] : List Int))]) = some (.arr g0 (newVer H g0) 0 (flit ([(flit ([p1] : List Int))] : List (FS Int))).l.length, upd H g0 (some (.arr (newVer H g0) 1 38 (cellsE e_sl_i64 (flit ([(flit ([p1] : List Int))] : List (FS Int))).l) false))) := fun H g0 => rfl
      cases h103 : loopT (t_additiveref34_layers_L2 p0) bigN ((fset (frep false (flen p0)) p1 true), (flit ([(flit ([p1] : List Int))] : List (FS Int)))) with
      | none => (rw [h103] at h; cases h)
      | some v104 =>
        simp only [h103] at h
        have f105 := t_additiveref34_layers_L2_ok h103
        simp only [t_additiveref34_layers_L2_st, t_additiveref34_layers_L2_out, fset_len] at f105
        try simp only [fcase_nil, fcase_lst, fcase_fsnoc, fcase_fapp, fcase_fset, fcase_frep, fcase_flit, fcase_flst] at f105
        cases h
        refine FC_pure (lf := lf67) rfl rfl rfl ?_
        simp only [lf67, lc67, c67_0, c67_1, c67_2, c67_3, c67_4, c67_5, c67_6, c67_7, c67_8, c67_9, c67_10, c67_11, c67_12, c67_13, c67_14, c67_15, c67_17, c67_19, c67_21]
        simp (maxSteps := 4000000) [f1, f3, f7, f8, f9, f10, -bslV_1, f105, e_a4_i64, e_bool, e_i64, e_sl_api_Row, e_sl_api_Run, e_sl_i64, e_additiveref34_seen, e_api_Cell, e_api_Region, e_api_Row, e_api_Run, e_comb_state, ↓c67_L0_u, ↓c67_L1_u, ↓c67_L2_u, snap_rowD (e := e_sl_i64) (el := 38) (fz := false)]
  · rw [if_neg h2] at h; cases h

/-! additiveref34.easiest -/
theorem c69_L0_u (Γ : Env) (ps : List Nat) (σ : St) : EC Γ ps 0 c69_L0 σ = EC Γ ps 0 (.seq (.seq (.reg false c69_3) (.cond (.t 18) .skip (.seq (.trim [12, 13]) (.exit 0)))) (.seq (.blk 1 (.seq (.reg false c69_4) (.seq (.seq (.reg true c69_5) (.cond (.t 40) (.exit 1) .skip)) (.seq (.reg false c69_6) (.seq (.seq (.reg false c69_7) (.cond (.t 53) (.reg false c69_8) .skip)) (.seq (.reg false c69_9) (.cond (.t 62) (.seq (.reg false c69_10) (.reg false c69_11)) .skip))))))) (.reg false c69_12))) σ := rfl
def t_additiveref34_easiest_L0 (k0 : (FS (A4 Int))) (k1 : (FS Int)) (k2 : (FS (A5 Int))) (k3 : Int) (k4 : Int) (s : (Int × Int × Int)) : Option (LR (Int × Int × Int) (Int × Int)) := match s with
 | (s0, s1, s2) => (if (ilt s2 4) = true then (match fget k0 k3 with
 | none => none
 | some v4 => (if inB s2 4 = true then (match gOpt (bnot (ilt (A4.get v4 s2) 0)) (fget k1 (A4.get v4 s2)) with
 | none => none
 | some v10 => (match gOpt (bnot (ilt (A4.get v4 s2) 0)) (fget k1 k3) with
 | none => none
 | some v13 => (if (bor (ilt (A4.get v4 s2) 0) (ine (v10.getD 0) (isub .i64 (v13.getD 0) 1))) = true then some (.nx (s0, s1, (iadd .i64 s2 1)))
 else (match fget k2 (A4.get v4 s2) with
 | none => none
 | some v17 => (if inB s2 5 = true then (if (band (ilt k4 4) (ine k4 s2)) = true then (if (bor (ilt s0 0) (ilt (iadd .i64 (A5.get v17 s2) 1) s1)) = true then some (.nx (s2, (iadd .i64 (A5.get v17 s2) 1), (iadd .i64 s2 1)))
 else some (.nx (s0, s1, (iadd .i64 s2 1))))
 else (if (bor (ilt s0 0) (ilt (A5.get v17 s2) s1)) = true then some (.nx (s2, (A5.get v17 s2), (iadd .i64 s2 1)))
 else some (.nx (s0, s1, (iadd .i64 s2 1))))) else none))))) else none))
 else some (.dn (s0, s1)))
def t_additiveref34_easiest_L0_st (k0 : (FS (A4 Int))) (k1 : (FS Int)) (k2 : (FS (A5 Int))) (k3 : Int) (k4 : Int) (s : (Int × Int × Int)) : St := match s with
 | (s0, s1, s2) => ⟨fr [(0, encF e_a4_i64 k0), (1, encF e_i64 k1), (2, encF e_a5_i64 k2), (3, .int .i64 k3), (4, .int .i64 k4), (12, .int .i64 s0), (13, .int .i64 s1), (14, .int .i64 s2)], hl []⟩
def t_additiveref34_easiest_L0_out (k0 : (FS (A4 Int))) (k1 : (FS Int)) (k2 : (FS (A5 Int))) (k3 : Int) (k4 : Int) (x : (Int × Int)) : LE × St := (.exit 0, ⟨fr [(12, .int .i64 x.1), (13, .int .i64 x.2)], hl []⟩)
theorem t_additiveref34_easiest_L0_ok {k0 : (FS (A4 Int))} {k1 : (FS Int)} {k2 : (FS (A5 Int))} {k3 : Int} {k4 : Int} {s : (Int × Int × Int)} {r : (Int × Int)} (h : loopT (t_additiveref34_easiest_L0 k0 k1 k2 k3 k4) bigN s = some r) : LK env [] 0 [0, 1, 2, 3, 4, 12, 13, 14] c69_L0 (some (t_additiveref34_easiest_L0_st k0 k1 k2 k3 k4 s)) = some (t_additiveref34_easiest_L0_out k0 k1 k2 k3 k4 r) := loop_walk (st := t_additiveref34_easiest_L0_st k0 k1 k2 k3 k4) (out := t_additiveref34_easiest_L0_out k0 k1 k2 k3 k4) (by
  clear h s r
  rintro ⟨s0, s1, s2⟩ x h
  simp only [t_additiveref34_easiest_L0] at h
  by_cases c1 : (ilt s2 4) = true
  · rw [if_pos c1] at h
    cases h3 : fget k0 k3 with
    | none => (rw [h3] at h; cases h)
    | some v4 =>
      simp only [h3] at h
      have f2 := iaddr_F (e := e_a4_i64) h3
      by_cases h6 : inB s2 4 = true
      · rw [if_pos h6] at h
        have f5 := iaddrA_r h6
        have f7 := fun R => (pack_drop false _ _ _ (by decide)).trans (@pack_A4 _ _ e_i64 _ v4 _ h6 [] ([] ++ R) (by decide) false)
        simp only [A4.toL, cellsE, List.flatMap_cons, List.flatMap_nil, List.append_assoc, List.nil_append, List.cons_append, List.append_nil, List.length_cons, List.length_nil, Nat.zero_add, e_i64] at f7
        cases h9 : gOpt (bnot (ilt (A4.get v4 s2) 0)) (fget k1 (A4.get v4 s2)) with
        | none => (rw [h9] at h; cases h)
        | some v10 =>
          simp only [h9] at h
          have f8 := fun (q0 : (ilt (A4.get v4 s2) 0) = false) => iaddr_F (e := e_i64) (gOpt_getD 0 h9 (bnot_mk q0))
          cases h12 : gOpt (bnot (ilt (A4.get v4 s2) 0)) (fget k1 k3) with
          | none => (rw [h12] at h; cases h)
          | some v13 =>
            simp only [h12] at h
            have f11 := fun (q0 : (ilt (A4.get v4 s2) 0) = false) => iaddr_F (e := e_i64) (gOpt_getD 0 h12 (bnot_mk q0))
            by_cases c14 : (bor (ilt (A4.get v4 s2) 0) (ine (v10.getD 0) (isub .i64 (v13.getD 0) 1))) = true
            · rw [if_pos c14] at h
              cases h
              show LK env [] 0 [0, 1, 2, 3, 4, 12, 13, 14] c69_L0 (some (t_additiveref34_easiest_L0_st _ _ _ _ _ _)) = LK env [] 0 [0, 1, 2, 3, 4, 12, 13, 14] c69_L0 (some (t_additiveref34_easiest_L0_st _ _ _ _ _ _))
              simp only [t_additiveref34_easiest_L0_st]
              rw [LK_step]
              rcases tof (ilt (A4.get v4 s2) 0) with a15 | a15
              · simp (maxSteps := 4000000) [c1, a15, f2, f5, f7, f8, f11, e_a4_i64, e_a5_i64, e_bool, e_i64, e_sl_api_Row, e_sl_api_Run, e_sl_i64, e_additiveref34_seen, e_api_Cell, e_api_Region, e_api_Row, e_api_Run, e_comb_state, ↓c69_L0_u, c69_0, c69_1, c69_2, c69_3, c69_4, c69_5, c69_6, c69_7, c69_8, c69_9, c69_10, c69_11, c69_12, c69_14]
              · rcases tof (ine (v10.getD 0) (isub .i64 (v13.getD 0) 1)) with a16 | a16
                · simp (maxSteps := 4000000) [c1, a15, a16, f2, f5, f7, f8, f11, e_a4_i64, e_a5_i64, e_bool, e_i64, e_sl_api_Row, e_sl_api_Run, e_sl_i64, e_additiveref34_seen, e_api_Cell, e_api_Region, e_api_Row, e_api_Run, e_comb_state, ↓c69_L0_u, c69_0, c69_1, c69_2, c69_3, c69_4, c69_5, c69_6, c69_7, c69_8, c69_9, c69_10, c69_11, c69_12, c69_14]
                · simp [c1, a15, a16] at c14
            · rw [if_neg c14] at h
              rw [Bool.not_eq_true] at c14
              cases h18 : fget k2 (A4.get v4 s2) with
              | none => (rw [h18] at h; cases h)
              | some v19 =>
                simp only [h18] at h
                have f17 := iaddr_F (e := e_a5_i64) h18
                by_cases h21 : inB s2 5 = true
                · rw [if_pos h21] at h
                  have f20 := iaddrA_r h21
                  have f22 := fun R => (pack_drop false _ _ _ (by decide)).trans (@pack_A5 _ _ e_i64 _ v19 _ h21 [] ([] ++ R) (by decide) false)
                  simp only [A5.toL, cellsE, List.flatMap_cons, List.flatMap_nil, List.append_assoc, List.nil_append, List.cons_append, List.append_nil, List.length_cons, List.length_nil, Nat.zero_add, e_i64] at f22
                  by_cases c23 : (band (ilt k4 4) (ine k4 s2)) = true
                  · rw [if_pos c23] at h
                    by_cases c24 : (bor (ilt s0 0) (ilt (iadd .i64 (A5.get v19 s2) 1) s1)) = true
                    · rw [if_pos c24] at h
                      cases h
                      show LK env [] 0 [0, 1, 2, 3, 4, 12, 13, 14] c69_L0 (some (t_additiveref34_easiest_L0_st _ _ _ _ _ _)) = LK env [] 0 [0, 1, 2, 3, 4, 12, 13, 14] c69_L0 (some (t_additiveref34_easiest_L0_st _ _ _ _ _ _))
                      simp only [t_additiveref34_easiest_L0_st]
                      rw [LK_step]
                      rcases tof (ilt (A4.get v4 s2) 0) with a25 | a25
                      · simp [c1, a25] at c14
                      · rcases tof (ine (v10.getD 0) (isub .i64 (v13.getD 0) 1)) with a26 | a26
                        · simp [c1, a25, a26] at c14
                        · rcases tof (ilt k4 4) with a27 | a27
                          · rcases tof (ine k4 s2) with a28 | a28
                            · rcases tof (ilt s0 0) with a29 | a29
                              · simp (maxSteps := 4000000) [c1, a25, a26, a27, a28, a29, f2, f5, f7, f8, f11, f17, f20, f22, e_a4_i64, e_a5_i64, e_bool, e_i64, e_sl_api_Row, e_sl_api_Run, e_sl_i64, e_additiveref34_seen, e_api_Cell, e_api_Region, e_api_Row, e_api_Run, e_comb_state, ↓c69_L0_u, c69_0, c69_1, c69_2, c69_3, c69_4, c69_5, c69_6, c69_7, c69_8, c69_9, c69_10, c69_11, c69_12, c69_14]
                              · rcases tof (ilt (iadd .i64 (A5.get v19 s2) 1) s1) with a30 | a30
                                · simp (maxSteps := 4000000) [c1, a25, a26, a27, a28, a29, a30, f2, f5, f7, f8, f11, f17, f20, f22, e_a4_i64, e_a5_i64, e_bool, e_i64, e_sl_api_Row, e_sl_api_Run, e_sl_i64, e_additiveref34_seen, e_api_Cell, e_api_Region, e_api_Row, e_api_Run, e_comb_state, ↓c69_L0_u, c69_0, c69_1, c69_2, c69_3, c69_4, c69_5, c69_6, c69_7, c69_8, c69_9, c69_10, c69_11, c69_12, c69_14]
                                · simp [c1, a25, a26, a27, a28, a29, a30] at c24
                            · simp [c1, a25, a26, a27, a28] at c23
                          · simp [c1, a25, a26, a27] at c23
                    · rw [if_neg c24] at h
                      rw [Bool.not_eq_true] at c24
                      cases h
                      show LK env [] 0 [0, 1, 2, 3, 4, 12, 13, 14] c69_L0 (some (t_additiveref34_easiest_L0_st _ _ _ _ _ _)) = LK env [] 0 [0, 1, 2, 3, 4, 12, 13, 14] c69_L0 (some (t_additiveref34_easiest_L0_st _ _ _ _ _ _))
                      simp only [t_additiveref34_easiest_L0_st]
                      rw [LK_step]
                      rcases tof (ilt (A4.get v4 s2) 0) with a31 | a31
                      · simp [c1, a31] at c14
                      · rcases tof (ine (v10.getD 0) (isub .i64 (v13.getD 0) 1)) with a32 | a32
                        · simp [c1, a31, a32] at c14
                        · rcases tof (ilt k4 4) with a33 | a33
                          · rcases tof (ine k4 s2) with a34 | a34
                            · rcases tof (ilt s0 0) with a35 | a35
                              · simp [c1, a31, a32, a33, a34, a35] at c24
                              · rcases tof (ilt (iadd .i64 (A5.get v19 s2) 1) s1) with a36 | a36
                                · simp [c1, a31, a32, a33, a34, a35, a36] at c24
                                · simp (maxSteps := 4000000) [c1, a31, a32, a33, a34, a35, a36, f2, f5, f7, f8, f11, f17, f20, f22, e_a4_i64, e_a5_i64, e_bool, e_i64, e_sl_api_Row, e_sl_api_Run, e_sl_i64, e_additiveref34_seen, e_api_Cell, e_api_Region, e_api_Row, e_api_Run, e_comb_state, ↓c69_L0_u, c69_0, c69_1, c69_2, c69_3, c69_4, c69_5, c69_6, c69_7, c69_8, c69_9, c69_10, c69_11, c69_12, c69_14]
                            · simp [c1, a31, a32, a33, a34] at c23
                          · simp [c1, a31, a32, a33] at c23
                  · rw [if_neg c23] at h
                    rw [Bool.not_eq_true] at c23
                    by_cases c37 : (bor (ilt s0 0) (ilt (A5.get v19 s2) s1)) = true
                    · rw [if_pos c37] at h
                      cases h
                      show LK env [] 0 [0, 1, 2, 3, 4, 12, 13, 14] c69_L0 (some (t_additiveref34_easiest_L0_st _ _ _ _ _ _)) = LK env [] 0 [0, 1, 2, 3, 4, 12, 13, 14] c69_L0 (some (t_additiveref34_easiest_L0_st _ _ _ _ _ _))
                      simp only [t_additiveref34_easiest_L0_st]
                      rw [LK_step]
                      rcases tof (ilt (A4.get v4 s2) 0) with a38 | a38
                      · simp [c1, a38] at c14
                      · rcases tof (ine (v10.getD 0) (isub .i64 (v13.getD 0) 1)) with a39 | a39
                        · simp [c1, a38, a39] at c14
                        · rcases tof (ilt k4 4) with a40 | a40
                          · rcases tof (ine k4 s2) with a41 | a41
                            · simp [c1, a38, a39, a40, a41] at c23
                            · rcases tof (ilt s0 0) with a42 | a42
                              · simp (maxSteps := 4000000) [c1, a38, a39, a40, a41, a42, f2, f5, f7, f8, f11, f17, f20, f22, e_a4_i64, e_a5_i64, e_bool, e_i64, e_sl_api_Row, e_sl_api_Run, e_sl_i64, e_additiveref34_seen, e_api_Cell, e_api_Region, e_api_Row, e_api_Run, e_comb_state, ↓c69_L0_u, c69_0, c69_1, c69_2, c69_3, c69_4, c69_5, c69_6, c69_7, c69_8, c69_9, c69_10, c69_11, c69_12, c69_14]
                              · rcases tof (ilt (A5.get v19 s2) s1) with a43 | a43
                                · simp (maxSteps := 4000000) [c1, a38, a39, a40, a41, a42, a43, f2, f5, f7, f8, f11, f17, f20, f22, e_a4_i64, e_a5_i64, e_bool, e_i64, e_sl_api_Row, e_sl_api_Run, e_sl_i64, e_additiveref34_seen, e_api_Cell, e_api_Region, e_api_Row, e_api_Run, e_comb_state, ↓c69_L0_u, c69_0, c69_1, c69_2, c69_3, c69_4, c69_5, c69_6, c69_7, c69_8, c69_9, c69_10, c69_11, c69_12, c69_14]
                                · simp [c1, a38, a39, a40, a41, a42, a43] at c37
                          · rcases tof (ilt s0 0) with a44 | a44
                            · simp (maxSteps := 4000000) [c1, a38, a39, a40, a44, f2, f5, f7, f8, f11, f17, f20, f22, e_a4_i64, e_a5_i64, e_bool, e_i64, e_sl_api_Row, e_sl_api_Run, e_sl_i64, e_additiveref34_seen, e_api_Cell, e_api_Region, e_api_Row, e_api_Run, e_comb_state, ↓c69_L0_u, c69_0, c69_1, c69_2, c69_3, c69_4, c69_5, c69_6, c69_7, c69_8, c69_9, c69_10, c69_11, c69_12, c69_14]
                            · rcases tof (ilt (A5.get v19 s2) s1) with a45 | a45
                              · simp (maxSteps := 4000000) [c1, a38, a39, a40, a44, a45, f2, f5, f7, f8, f11, f17, f20, f22, e_a4_i64, e_a5_i64, e_bool, e_i64, e_sl_api_Row, e_sl_api_Run, e_sl_i64, e_additiveref34_seen, e_api_Cell, e_api_Region, e_api_Row, e_api_Run, e_comb_state, ↓c69_L0_u, c69_0, c69_1, c69_2, c69_3, c69_4, c69_5, c69_6, c69_7, c69_8, c69_9, c69_10, c69_11, c69_12, c69_14]
                              · simp [c1, a38, a39, a40, a44, a45] at c37
                    · rw [if_neg c37] at h
                      rw [Bool.not_eq_true] at c37
                      cases h
                      show LK env [] 0 [0, 1, 2, 3, 4, 12, 13, 14] c69_L0 (some (t_additiveref34_easiest_L0_st _ _ _ _ _ _)) = LK env [] 0 [0, 1, 2, 3, 4, 12, 13, 14] c69_L0 (some (t_additiveref34_easiest_L0_st _ _ _ _ _ _))
                      simp only [t_additiveref34_easiest_L0_st]
                      rw [LK_step]
                      rcases tof (ilt (A4.get v4 s2) 0) with a46 | a46
                      · simp [c1, a46] at c14
                      · rcases tof (ine (v10.getD 0) (isub .i64 (v13.getD 0) 1)) with a47 | a47
                        · simp [c1, a46, a47] at c14
                        · rcases tof (ilt k4 4) with a48 | a48
                          · rcases tof (ine k4 s2) with a49 | a49
                            · simp [c1, a46, a47, a48, a49] at c23
                            · rcases tof (ilt s0 0) with a50 | a50
                              · simp [c1, a46, a47, a48, a49, a50] at c37
                              · rcases tof (ilt (A5.get v19 s2) s1) with a51 | a51
                                · simp [c1, a46, a47, a48, a49, a50, a51] at c37
                                · simp (maxSteps := 4000000) [c1, a46, a47, a48, a49, a50, a51, f2, f5, f7, f8, f11, f17, f20, f22, e_a4_i64, e_a5_i64, e_bool, e_i64, e_sl_api_Row, e_sl_api_Run, e_sl_i64, e_additiveref34_seen, e_api_Cell, e_api_Region, e_api_Row, e_api_Run, e_comb_state, ↓c69_L0_u, c69_0, c69_1, c69_2, c69_3, c69_4, c69_5, c69_6, c69_7, c69_8, c69_9, c69_10, c69_11, c69_12, c69_14]
                          · rcases tof (ilt s0 0) with a52 | a52
                            · simp [c1, a46, a47, a48, a52] at c37
                            · rcases tof (ilt (A5.get v19 s2) s1) with a53 | a53
                              · simp [c1, a46, a47, a48, a52, a53] at c37
                              · simp (maxSteps := 4000000) [c1, a46, a47, a48, a52, a53, f2, f5, f7, f8, f11, f17, f20, f22, e_a4_i64, e_a5_i64, e_bool, e_i64, e_sl_api_Row, e_sl_api_Run, e_sl_i64, e_additiveref34_seen, e_api_Cell, e_api_Region, e_api_Row, e_api_Run, e_comb_state, ↓c69_L0_u, c69_0, c69_1, c69_2, c69_3, c69_4, c69_5, c69_6, c69_7, c69_8, c69_9, c69_10, c69_11, c69_12, c69_14]
                · rw [if_neg h21] at h; cases h
      · rw [if_neg h6] at h; cases h
  · rw [if_neg c1] at h
    rw [Bool.not_eq_true] at c1
    cases h
    show LK env [] 0 [0, 1, 2, 3, 4, 12, 13, 14] c69_L0 (some (t_additiveref34_easiest_L0_st _ _ _ _ _ _)) = some (t_additiveref34_easiest_L0_out _ _ _ _ _ _)
    simp only [t_additiveref34_easiest_L0_st, t_additiveref34_easiest_L0_out]
    rw [LK_step]
    simp (maxSteps := 4000000) [c1, e_a4_i64, e_a5_i64, e_bool, e_i64, e_sl_api_Row, e_sl_api_Run, e_sl_i64, e_additiveref34_seen, e_api_Cell, e_api_Region, e_api_Row, e_api_Run, e_comb_state, ↓c69_L0_u, c69_0, c69_1, c69_2, c69_3, c69_4, c69_5, c69_6, c69_7, c69_8, c69_9, c69_10, c69_11, c69_12, c69_14]) bigN s r h
def t_additiveref34_easiest (p0 : (FS (A4 Int))) (p1 : (FS Int)) (p2 : (FS (A5 Int))) (p3 : Int) (p4 : Int) : Option (Int × Int) := (match loopT (t_additiveref34_easiest_L0 p0 p1 p2 p3 p4) bigN ((-1), 0, 0) with
 | none => none
 | some v25 => some (v25.1, v25.2))
theorem t_additiveref34_easiest_ok {p0 : (FS (A4 Int))} {p1 : (FS Int)} {p2 : (FS (A5 Int))} {p3 : Int} {p4 : Int} {r : (Int × Int)} (h : t_additiveref34_easiest p0 p1 p2 p3 p4 = some r) : FC env 69 [encF e_a4_i64 p0, encF e_i64 p1, encF e_a5_i64 p2, .int .i64 p3, .int .i64 p4] none = some (.tup [.int .i64 r.1, .int .i64 r.2], fun _ => none) := by
  unfold t_additiveref34_easiest at h
  cases h54 : loopT (t_additiveref34_easiest_L0 p0 p1 p2 p3 p4) bigN ((-1), 0, 0) with
  | none => (rw [h54] at h; cases h)
  | some v55 =>
    simp only [h54] at h
    have f56 := t_additiveref34_easiest_L0_ok h54
    simp only [t_additiveref34_easiest_L0_st, t_additiveref34_easiest_L0_out, fset_len] at f56
    try simp only [fcase_nil, fcase_lst, fcase_fsnoc, fcase_fapp, fcase_fset, fcase_frep, fcase_flit, fcase_flst] at f56
    cases h
    refine FC_pure (lf := lf69) rfl rfl rfl ?_
    simp only [lf69, lc69, c69_0, c69_1, c69_2, c69_3, c69_4, c69_5, c69_6, c69_7, c69_8, c69_9, c69_10, c69_11, c69_12, c69_14]
    simp (maxSteps := 4000000) [f56, e_a4_i64, e_a5_i64, e_bool, e_i64, e_sl_api_Row, e_sl_api_Run, e_sl_i64, e_additiveref34_seen, e_api_Cell, e_api_Region, e_api_Row, e_api_Run, e_comb_state, ↓c69_L0_u, snap_tupE, tupS, snap7_int, snap7_bool, snap7_str, snap7_nils, snap7_agg]

/-! additiveref34.Easy -/
theorem c34_L0_u (Γ : Env) (ps : List Nat) (σ : St) : EC Γ ps 0 c34_L0 σ = EC Γ ps 0 (.seq (.seq (.reg false c34_10) (.cond (.t 54) .skip (.seq (.trim [4, 5, 10, 11, 12, 13, 14]) (.exit 0)))) (.seq (.blk 1 (.reg false c34_11)) (.reg false c34_12))) σ := rfl
theorem c34_L1_u (Γ : Env) (ps : List Nat) (σ : St) : EC Γ ps 0 c34_L1 σ = EC Γ ps 0 (.seq (.seq (.reg false c34_21) (.cond (.t 91) .skip (.seq (.trim [4, 5, 10, 11, 12, 13, 14, 16, 17]) (.exit 6)))) (.seq (.blk 7 (.seq (.reg false c34_22) (.reg false c34_23))) (.reg false c34_24))) σ := rfl
theorem c34_L2_u (Γ : Env) (ps : List Nat) (σ : St) : EC Γ ps 0 c34_L2 σ = EC Γ ps 0 (.seq (.seq (.reg false c34_17) (.cond (.t 72) .skip (.seq (.trim [4, 5, 10, 11, 12, 13, 14, 16]) (.exit 4)))) (.seq (.blk 5 (.seq (.reg false c34_18) (.seq (.reg false c34_19) (.seq (.reg false c34_20) (.blk 6 (.loop [4, 5, 10, 11, 12, 13, 14, 16, 17, 18, 19] c34_L1)))))) (.reg false c34_26))) σ := rfl
theorem c34_L3_u (Γ : Env) (ps : List Nat) (σ : St) : EC Γ ps 0 c34_L3 σ = EC Γ ps 0 (.seq (.seq (.reg false c34_15) (.cond (.t 63) .skip (.seq (.trim [4, 5, 10, 11, 13, 14]) (.exit 2)))) (.seq (.blk 3 (.seq (.reg false c34_16) (.blk 4 (.loop [4, 5, 10, 11, 12, 13, 14, 16, 17] c34_L2)))) (.reg false c34_28))) σ := rfl
theorem c34_L4_u (Γ : Env) (ps : List Nat) (σ : St) : EC Γ ps 0 c34_L4 σ = EC Γ ps 0 (.seq (.seq (.reg true c34_33) (.cond (.t 119) .skip (.seq (.trim [23]) (.exit 8)))) (.blk 9 (.seq (.reg false c34_34) (.seq (.reg false c34_35) (.seq (.reg false c34_36) (.reg false c34_37)))))) σ := rfl
def t_additiveref34_Easy_L0 (k0 : api_Cell) (k1 : api_Cell) (k2 : (FS api_Cell)) (k3 : (FS (A4 Int))) (k4 : (FS (FS Int))) (s : ((FS Int) × (FS (A5 Int)) × Int)) : Option (LR ((FS Int) × (FS (A5 Int)) × Int) ((FS Int) × (FS (A5 Int)))) := match s with
 | (s0, s1, s2) => (if (ilt s2 (flen k2)) = true then (match fget s0 s2 with
 | none => none
 | some v25 => some (.nx ((fset s0 s2 (-1)), s1, (iadd .i64 s2 1))))
 else some (.dn (s0, s1)))
def t_additiveref34_Easy_L0_st (k0 : api_Cell) (k1 : api_Cell) (k2 : (FS api_Cell)) (k3 : (FS (A4 Int))) (k4 : (FS (FS Int))) (s : ((FS Int) × (FS (A5 Int)) × Int)) : St := match s with
 | (s0, s1, s2) => ⟨fr [(4, .ptr 4 0 0), (5, .ptr 5 0 0), (10, encF e_api_Cell k2), (11, encF e_a4_i64 k3), (12, encF e_sl_i64 k4), (13, .arr 13 0 0 s0.l.length), (14, .arr 14 0 0 s1.l.length), (15, .int .i64 s2)], hl [(4, .box 0 [.int .i64 k0.X, .int .i64 k0.Y]), (5, .box 0 [.int .i64 k1.X, .int .i64 k1.Y]), (13, .arr 0 1 3 (cellsE e_i64 s0.l) false), (14, .arr 0 5 99 (cellsE e_a5_i64 s1.l) false)]⟩
def t_additiveref34_Easy_L0_out (k0 : api_Cell) (k1 : api_Cell) (k2 : (FS api_Cell)) (k3 : (FS (A4 Int))) (k4 : (FS (FS Int))) (x : ((FS Int) × (FS (A5 Int)))) : LE × St := (.exit 0, ⟨fr [(4, .ptr 4 0 0), (5, .ptr 5 0 0), (10, encF e_api_Cell k2), (11, encF e_a4_i64 k3), (12, encF e_sl_i64 k4), (13, .arr 13 0 0 x.1.l.length), (14, .arr 14 0 0 x.2.l.length)], hl [(4, .box 0 [.int .i64 k0.X, .int .i64 k0.Y]), (5, .box 0 [.int .i64 k1.X, .int .i64 k1.Y]), (13, .arr 0 1 3 (cellsE e_i64 x.1.l) false), (14, .arr 0 5 99 (cellsE e_a5_i64 x.2.l) false)]⟩)
theorem t_additiveref34_Easy_L0_ok {k0 : api_Cell} {k1 : api_Cell} {k2 : (FS api_Cell)} {k3 : (FS (A4 Int))} {k4 : (FS (FS Int))} {s : ((FS Int) × (FS (A5 Int)) × Int)} {r : ((FS Int) × (FS (A5 Int)))} (h : loopT (t_additiveref34_Easy_L0 k0 k1 k2 k3 k4) bigN s = some r) : LK env [] 0 [4, 5, 10, 11, 12, 13, 14, 15] c34_L0 (some (t_additiveref34_Easy_L0_st k0 k1 k2 k3 k4 s)) = some (t_additiveref34_Easy_L0_out k0 k1 k2 k3 k4 r) := loop_walk (st := t_additiveref34_Easy_L0_st k0 k1 k2 k3 k4) (out := t_additiveref34_Easy_L0_out k0 k1 k2 k3 k4) (by
  clear h s r
  rintro ⟨s0, s1, s2⟩ x h
  simp only [t_additiveref34_Easy_L0] at h
  by_cases c22 : (ilt s2 (flen k2)) = true
  · rw [if_pos c22] at h
    cases h25 : fget s0 s2 with
    | none => (rw [h25] at h; cases h)
    | some v26 =>
      simp only [h25] at h
      have f23 := iaddr_row (w := 1) h25
      have f24 := h25
      have f27 := @paste_row0 _ _ e_i64 _ s0 s2 v26 (-1) f24 [.int .i64 (-1)] (by simp) (by simp [e_i64])
      have f28 := in_row0 (w := 1) f24 1 (by decide)
      try simp at f28
      cases h
      show LK env [] 0 [4, 5, 10, 11, 12, 13, 14, 15] c34_L0 (some (t_additiveref34_Easy_L0_st _ _ _ _ _ _)) = LK env [] 0 [4, 5, 10, 11, 12, 13, 14, 15] c34_L0 (some (t_additiveref34_Easy_L0_st _ _ _ _ _ _))
      simp only [t_additiveref34_Easy_L0_st]
      rw [LK_step]
      simp (maxSteps := 4000000) [c22, f23, f27, f28, e_a4_i64, e_a5_i64, e_bool, e_i64, e_sl_api_Row, e_sl_api_Run, e_sl_i64, e_additiveref34_seen, e_api_Cell, e_api_Region, e_api_Row, e_api_Run, e_comb_state, ↓c34_L0_u, ↓c34_L1_u, ↓c34_L2_u, ↓c34_L3_u, ↓c34_L4_u, c34_0, c34_1, c34_2, c34_3, c34_4, c34_5, c34_6, c34_7, c34_8, c34_9, c34_10, c34_11, c34_12, c34_14, c34_15, c34_16, c34_17, c34_18, c34_19, c34_20, c34_21, c34_22, c34_23, c34_24, c34_26, c34_28, c34_30, c34_31, c34_32, c34_33, c34_34, c34_35, c34_36, c34_37, c34_39]
  · rw [if_neg c22] at h
    rw [Bool.not_eq_true] at c22
    cases h
    show LK env [] 0 [4, 5, 10, 11, 12, 13, 14, 15] c34_L0 (some (t_additiveref34_Easy_L0_st _ _ _ _ _ _)) = some (t_additiveref34_Easy_L0_out _ _ _ _ _ _)
    simp only [t_additiveref34_Easy_L0_st, t_additiveref34_Easy_L0_out]
    rw [LK_step]
    simp (maxSteps := 4000000) [c22, e_a4_i64, e_a5_i64, e_bool, e_i64, e_sl_api_Row, e_sl_api_Run, e_sl_i64, e_additiveref34_seen, e_api_Cell, e_api_Region, e_api_Row, e_api_Run, e_comb_state, ↓c34_L0_u, ↓c34_L1_u, ↓c34_L2_u, ↓c34_L3_u, ↓c34_L4_u, c34_0, c34_1, c34_2, c34_3, c34_4, c34_5, c34_6, c34_7, c34_8, c34_9, c34_10, c34_11, c34_12, c34_14, c34_15, c34_16, c34_17, c34_18, c34_19, c34_20, c34_21, c34_22, c34_23, c34_24, c34_26, c34_28, c34_30, c34_31, c34_32, c34_33, c34_34, c34_35, c34_36, c34_37, c34_39]) bigN s r h
def t_additiveref34_Easy_L1 (k0 : api_Cell) (k1 : api_Cell) (k2 : (FS api_Cell)) (k3 : (FS (A4 Int))) (k4 : (FS (FS Int))) (k5 : Int) (k6 : Int) (k7 : Int) (s : ((FS Int) × (FS (A5 Int)) × Int)) : Option (LR ((FS Int) × (FS (A5 Int)) × Int) ((FS Int) × (FS (A5 Int)))) := match s with
 | (s0, s1, s2) => (if (band (ilt s2 5) (igt k5 0)) = true then (match t_additiveref34_easiest k3 (flst s0) (flst s1) k7 s2 with
 | none => none
 | some v49 => (match fget s1 k7 with
 | none => none
 | some v53 => (if inB s2 5 = true then some (.nx (s0, (fset s1 k7 (A5.set v53 s2 v49.2)), (iadd .i64 s2 1))) else none)))
 else some (.dn (s0, s1)))
def t_additiveref34_Easy_L1_st (k0 : api_Cell) (k1 : api_Cell) (k2 : (FS api_Cell)) (k3 : (FS (A4 Int))) (k4 : (FS (FS Int))) (k5 : Int) (k6 : Int) (k7 : Int) (s : ((FS Int) × (FS (A5 Int)) × Int)) : St := match s with
 | (s0, s1, s2) => ⟨fr [(4, .ptr 4 0 0), (5, .ptr 5 0 0), (10, encF e_api_Cell k2), (11, encF e_a4_i64 k3), (12, encF e_sl_i64 k4), (13, .arr 13 0 0 s0.l.length), (14, .arr 14 0 0 s1.l.length), (16, .int .i64 k5), (17, .int .i64 k6), (18, .int .i64 k7), (19, .int .i64 s2)], hl [(4, .box 0 [.int .i64 k0.X, .int .i64 k0.Y]), (5, .box 0 [.int .i64 k1.X, .int .i64 k1.Y]), (13, .arr 0 1 3 (cellsE e_i64 s0.l) false), (14, .arr 0 5 99 (cellsE e_a5_i64 s1.l) false)]⟩
def t_additiveref34_Easy_L1_out (k0 : api_Cell) (k1 : api_Cell) (k2 : (FS api_Cell)) (k3 : (FS (A4 Int))) (k4 : (FS (FS Int))) (k5 : Int) (k6 : Int) (k7 : Int) (x : ((FS Int) × (FS (A5 Int)))) : LE × St := (.exit 6, ⟨fr [(4, .ptr 4 0 0), (5, .ptr 5 0 0), (10, encF e_api_Cell k2), (11, encF e_a4_i64 k3), (12, encF e_sl_i64 k4), (13, .arr 13 0 0 x.1.l.length), (14, .arr 14 0 0 x.2.l.length), (16, .int .i64 k5), (17, .int .i64 k6)], hl [(4, .box 0 [.int .i64 k0.X, .int .i64 k0.Y]), (5, .box 0 [.int .i64 k1.X, .int .i64 k1.Y]), (13, .arr 0 1 3 (cellsE e_i64 x.1.l) false), (14, .arr 0 5 99 (cellsE e_a5_i64 x.2.l) false)]⟩)
theorem t_additiveref34_Easy_L1_ok {k0 : api_Cell} {k1 : api_Cell} {k2 : (FS api_Cell)} {k3 : (FS (A4 Int))} {k4 : (FS (FS Int))} {k5 : Int} {k6 : Int} {k7 : Int} {s : ((FS Int) × (FS (A5 Int)) × Int)} {r : ((FS Int) × (FS (A5 Int)))} (h : loopT (t_additiveref34_Easy_L1 k0 k1 k2 k3 k4 k5 k6 k7) bigN s = some r) : LK env [] 0 [4, 5, 10, 11, 12, 13, 14, 16, 17, 18, 19] c34_L1 (some (t_additiveref34_Easy_L1_st k0 k1 k2 k3 k4 k5 k6 k7 s)) = some (t_additiveref34_Easy_L1_out k0 k1 k2 k3 k4 k5 k6 k7 r) := loop_walk (st := t_additiveref34_Easy_L1_st k0 k1 k2 k3 k4 k5 k6 k7) (out := t_additiveref34_Easy_L1_out k0 k1 k2 k3 k4 k5 k6 k7) (by
  clear h s r
  rintro ⟨s0, s1, s2⟩ x h
  simp only [t_additiveref34_Easy_L1] at h
  by_cases c47 : (band (ilt s2 5) (igt k5 0)) = true
  · rw [if_pos c47] at h
    cases h49 : t_additiveref34_easiest k3 (flst s0) (flst s1) k7 s2 with
    | none => (rw [h49] at h; cases h)
    | some v50 =>
      simp only [h49] at h
      have f48 := t_additiveref34_easiest_ok h49
      try simp only [encF_nil] at f48
      cases h53 : fget s1 k7 with
      | none => (rw [h53] at h; cases h)
      | some v54 =>
        simp only [h53] at h
        have f51 := iaddr_row (w := 5) h53
        have f52 := h53
        by_cases h56 : inB s2 5 = true
        · rw [if_pos h56] at h
          have f55 := iaddrA_off h56
          have f57 := @paste_A5 _ _ e_i64 _ v54 _ h56 [] [] v50.2
          simp only [A5.toL, cellsE, List.flatMap_cons, List.flatMap_nil, List.append_assoc, List.nil_append, List.cons_append, List.append_nil, List.length_cons, List.length_nil, Nat.zero_add, e_i64] at f57
          have f58 := @paste_rowA0 _ _ e_a5_i64 _ s1 k7 v54 (A5.set v54 s2 v50.2) f52 1 s2 [.int .i64 v50.2] (aOff_in h56 0 1 5 (by decide)) (by simp only [e_a5_i64]; exact f57)
          have f59 := in_rowA0 (w := 5) f52 1 1 s2 (aOff_in h56 0 1 5 (by decide))
          try simp at f59
          cases h
          show LK env [] 0 [4, 5, 10, 11, 12, 13, 14, 16, 17, 18, 19] c34_L1 (some (t_additiveref34_Easy_L1_st _ _ _ _ _ _ _ _ _)) = LK env [] 0 [4, 5, 10, 11, 12, 13, 14, 16, 17, 18, 19] c34_L1 (some (t_additiveref34_Easy_L1_st _ _ _ _ _ _ _ _ _))
          simp only [t_additiveref34_Easy_L1_st]
          rw [LK_step]
          rcases tof (ilt s2 5) with a60 | a60
          · rcases tof (igt k5 0) with a61 | a61
            · simp (maxSteps := 4000000) [a60, a61, snap_rowD (e := e_i64) (el := 3) (fz := false), snap_rowD (e := e_a5_i64) (el := 99) (fz := false), f48, f51, f55, f58, f59, e_a4_i64, e_a5_i64, e_bool, e_i64, e_sl_api_Row, e_sl_api_Run, e_sl_i64, e_additiveref34_seen, e_api_Cell, e_api_Region, e_api_Row, e_api_Run, e_comb_state, ↓c34_L0_u, ↓c34_L1_u, ↓c34_L2_u, ↓c34_L3_u, ↓c34_L4_u, c34_0, c34_1, c34_2, c34_3, c34_4, c34_5, c34_6, c34_7, c34_8, c34_9, c34_10, c34_11, c34_12, c34_14, c34_15, c34_16, c34_17, c34_18, c34_19, c34_20, c34_21, c34_22, c34_23, c34_24, c34_26, c34_28, c34_30, c34_31, c34_32, c34_33, c34_34, c34_35, c34_36, c34_37, c34_39]
            · simp [a60, a61] at c47
          · simp [a60] at c47
        · rw [if_neg h56] at h; cases h
  · rw [if_neg c47] at h
    rw [Bool.not_eq_true] at c47
    cases h
    show LK env [] 0 [4, 5, 10, 11, 12, 13, 14, 16, 17, 18, 19] c34_L1 (some (t_additiveref34_Easy_L1_st _ _ _ _ _ _ _ _ _)) = some (t_additiveref34_Easy_L1_out _ _ _ _ _ _ _ _ _)
    simp only [t_additiveref34_Easy_L1_st, t_additiveref34_Easy_L1_out]
    rw [LK_step]
    rcases tof (ilt s2 5) with a62 | a62
    · rcases tof (igt k5 0) with a63 | a63
      · simp [a62, a63] at c47
      · simp (maxSteps := 4000000) [a62, a63, e_a4_i64, e_a5_i64, e_bool, e_i64, e_sl_api_Row, e_sl_api_Run, e_sl_i64, e_additiveref34_seen, e_api_Cell, e_api_Region, e_api_Row, e_api_Run, e_comb_state, ↓c34_L0_u, ↓c34_L1_u, ↓c34_L2_u, ↓c34_L3_u, ↓c34_L4_u, c34_0, c34_1, c34_2, c34_3, c34_4, c34_5, c34_6, c34_7, c34_8, c34_9, c34_10, c34_11, c34_12, c34_14, c34_15, c34_16, c34_17, c34_18, c34_19, c34_20, c34_21, c34_22, c34_23, c34_24, c34_26, c34_28, c34_30, c34_31, c34_32, c34_33, c34_34, c34_35, c34_36, c34_37, c34_39]
    · simp (maxSteps := 4000000) [a62, e_a4_i64, e_a5_i64, e_bool, e_i64, e_sl_api_Row, e_sl_api_Run, e_sl_i64, e_additiveref34_seen, e_api_Cell, e_api_Region, e_api_Row, e_api_Run, e_comb_state, ↓c34_L0_u, ↓c34_L1_u, ↓c34_L2_u, ↓c34_L3_u, ↓c34_L4_u, c34_0, c34_1, c34_2, c34_3, c34_4, c34_5, c34_6, c34_7, c34_8, c34_9, c34_10, c34_11, c34_12, c34_14, c34_15, c34_16, c34_17, c34_18, c34_19, c34_20, c34_21, c34_22, c34_23, c34_24, c34_26, c34_28, c34_30, c34_31, c34_32, c34_33, c34_34, c34_35, c34_36, c34_37, c34_39]) bigN s r h
def t_additiveref34_Easy_L2 (k0 : api_Cell) (k1 : api_Cell) (k2 : (FS api_Cell)) (k3 : (FS (A4 Int))) (k4 : (FS (FS Int))) (k5 : Int) (s : ((FS Int) × (FS (A5 Int)) × Int)) : Option (LR ((FS Int) × (FS (A5 Int)) × Int) ((FS Int) × (FS (A5 Int)))) := match s with
 | (s0, s1, s2) => (match fget k4 k5 with
 | none => none
 | some v34 => (if (ilt s2 (flen v34)) = true then (match fget v34 s2 with
 | none => none
 | some v39 => (match fget s0 v39 with
 | none => none
 | some v43 => (match loopT (t_additiveref34_Easy_L1 k0 k1 k2 k3 k4 k5 s2 v39) bigN ((fset s0 v39 k5), s1, 0) with
 | none => none
 | some v60 => some (.nx (v60.1, v60.2, (iadd .i64 s2 1))))))
 else some (.dn (s0, s1))))
def t_additiveref34_Easy_L2_st (k0 : api_Cell) (k1 : api_Cell) (k2 : (FS api_Cell)) (k3 : (FS (A4 Int))) (k4 : (FS (FS Int))) (k5 : Int) (s : ((FS Int) × (FS (A5 Int)) × Int)) : St := match s with
 | (s0, s1, s2) => ⟨fr [(4, .ptr 4 0 0), (5, .ptr 5 0 0), (10, encF e_api_Cell k2), (11, encF e_a4_i64 k3), (12, encF e_sl_i64 k4), (13, .arr 13 0 0 s0.l.length), (14, .arr 14 0 0 s1.l.length), (16, .int .i64 k5), (17, .int .i64 s2)], hl [(4, .box 0 [.int .i64 k0.X, .int .i64 k0.Y]), (5, .box 0 [.int .i64 k1.X, .int .i64 k1.Y]), (13, .arr 0 1 3 (cellsE e_i64 s0.l) false), (14, .arr 0 5 99 (cellsE e_a5_i64 s1.l) false)]⟩
def t_additiveref34_Easy_L2_out (k0 : api_Cell) (k1 : api_Cell) (k2 : (FS api_Cell)) (k3 : (FS (A4 Int))) (k4 : (FS (FS Int))) (k5 : Int) (x : ((FS Int) × (FS (A5 Int)))) : LE × St := (.exit 4, ⟨fr [(4, .ptr 4 0 0), (5, .ptr 5 0 0), (10, encF e_api_Cell k2), (11, encF e_a4_i64 k3), (12, encF e_sl_i64 k4), (13, .arr 13 0 0 x.1.l.length), (14, .arr 14 0 0 x.2.l.length), (16, .int .i64 k5)], hl [(4, .box 0 [.int .i64 k0.X, .int .i64 k0.Y]), (5, .box 0 [.int .i64 k1.X, .int .i64 k1.Y]), (13, .arr 0 1 3 (cellsE e_i64 x.1.l) false), (14, .arr 0 5 99 (cellsE e_a5_i64 x.2.l) false)]⟩)
theorem t_additiveref34_Easy_L2_ok {k0 : api_Cell} {k1 : api_Cell} {k2 : (FS api_Cell)} {k3 : (FS (A4 Int))} {k4 : (FS (FS Int))} {k5 : Int} {s : ((FS Int) × (FS (A5 Int)) × Int)} {r : ((FS Int) × (FS (A5 Int)))} (h : loopT (t_additiveref34_Easy_L2 k0 k1 k2 k3 k4 k5) bigN s = some r) : LK env [] 0 [4, 5, 10, 11, 12, 13, 14, 16, 17] c34_L2 (some (t_additiveref34_Easy_L2_st k0 k1 k2 k3 k4 k5 s)) = some (t_additiveref34_Easy_L2_out k0 k1 k2 k3 k4 k5 r) := loop_walk (st := t_additiveref34_Easy_L2_st k0 k1 k2 k3 k4 k5) (out := t_additiveref34_Easy_L2_out k0 k1 k2 k3 k4 k5) (by
  clear h s r
  rintro ⟨s0, s1, s2⟩ x h
  simp only [t_additiveref34_Easy_L2] at h
  cases h34 : fget k4 k5 with
  | none => (rw [h34] at h; cases h)
  | some v35 =>
    simp only [h34] at h
    have f33 := iaddr_F (e := e_sl_i64) h34
    by_cases c36 : (ilt s2 (flen v35)) = true
    · rw [if_pos c36] at h
      cases h39 : fget v35 s2 with
      | none => (rw [h39] at h; cases h)
      | some v40 =>
        simp only [h39] at h
        have f38 := iaddr_F (e := e_i64) h39
        cases h43 : fget s0 v40 with
        | none => (rw [h43] at h; cases h)
        | some v44 =>
          simp only [h43] at h
          have f41 := iaddr_row (w := 1) h43
          have f42 := h43
          have f45 := @paste_row0 _ _ e_i64 _ s0 v40 v44 k5 f42 [.int .i64 k5] (by simp) (by simp [e_i64])
          have f46 := in_row0 (w := 1) f42 1 (by decide)
          try simp at f46
          cases h64 : loopT (t_additiveref34_Easy_L1 k0 k1 k2 k3 k4 k5 s2 v40) bigN ((fset s0 v40 k5), s1, 0) with
          | none => (rw [h64] at h; cases h)
          | some v65 =>
            simp only [h64] at h
            have f66 := t_additiveref34_Easy_L1_ok h64
            simp only [t_additiveref34_Easy_L1_st, t_additiveref34_Easy_L1_out, fset_len] at f66
            try simp only [fcase_nil, fcase_lst, fcase_fsnoc, fcase_fapp, fcase_fset, fcase_frep, fcase_flit, fcase_flst] at f66
            cases h
            show LK env [] 0 [4, 5, 10, 11, 12, 13, 14, 16, 17] c34_L2 (some (t_additiveref34_Easy_L2_st _ _ _ _ _ _ _)) = LK env [] 0 [4, 5, 10, 11, 12, 13, 14, 16, 17] c34_L2 (some (t_additiveref34_Easy_L2_st _ _ _ _ _ _ _))
            simp only [t_additiveref34_Easy_L2_st]
            rw [LK_step]
            try simp only [c36] at f66
            simp (maxSteps := 4000000) [c36, f33, f38, f41, f45, f46, f66, e_a4_i64, e_a5_i64, e_bool, e_i64, e_sl_api_Row, e_sl_api_Run, e_sl_i64, e_additiveref34_seen, e_api_Cell, e_api_Region, e_api_Row, e_api_Run, e_comb_state, ↓c34_L0_u, ↓c34_L1_u, ↓c34_L2_u, ↓c34_L3_u, ↓c34_L4_u, c34_0, c34_1, c34_2, c34_3, c34_4, c34_5, c34_6, c34_7, c34_8, c34_9, c34_10, c34_11, c34_12, c34_14, c34_15, c34_16, c34_17, c34_18, c34_19, c34_20, c34_21, c34_22, c34_23, c34_24, c34_26, c34_28, c34_30, c34_31, c34_32, c34_33, c34_34, c34_35, c34_36, c34_37, c34_39]
    · rw [if_neg c36] at h
      rw [Bool.not_eq_true] at c36
      cases h
      show LK env [] 0 [4, 5, 10, 11, 12, 13, 14, 16, 17] c34_L2 (some (t_additiveref34_Easy_L2_st _ _ _ _ _ _ _)) = some (t_additiveref34_Easy_L2_out _ _ _ _ _ _ _)
      simp only [t_additiveref34_Easy_L2_st, t_additiveref34_Easy_L2_out]
      rw [LK_step]
      simp (maxSteps := 4000000) [c36, f33, e_a4_i64, e_a5_i64, e_bool, e_i64, e_sl_api_Row, e_sl_api_Run, e_sl_i64, e_additiveref34_seen, e_api_Cell, e_api_Region, e_api_Row, e_api_Run, e_comb_state, ↓c34_L0_u, ↓c34_L1_u, ↓c34_L2_u, ↓c34_L3_u, ↓c34_L4_u, c34_0, c34_1, c34_2, c34_3, c34_4, c34_5, c34_6, c34_7, c34_8, c34_9, c34_10, c34_11, c34_12, c34_14, c34_15, c34_16, c34_17, c34_18, c34_19, c34_20, c34_21, c34_22, c34_23, c34_24, c34_26, c34_28, c34_30, c34_31, c34_32, c34_33, c34_34, c34_35, c34_36, c34_37, c34_39]) bigN s r h
def t_additiveref34_Easy_L3 (k0 : api_Cell) (k1 : api_Cell) (k2 : (FS api_Cell)) (k3 : (FS (A4 Int))) (k4 : (FS (FS Int))) (s : ((FS Int) × (FS (A5 Int)) × Int)) : Option (LR ((FS Int) × (FS (A5 Int)) × Int) ((FS Int) × (FS (A5 Int)))) := match s with
 | (s0, s1, s2) => (if (ilt s2 (flen k4)) = true then (match loopT (t_additiveref34_Easy_L2 k0 k1 k2 k3 k4 s2) bigN (s0, s1, 0) with
 | none => none
 | some v63 => some (.nx (v63.1, v63.2, (iadd .i64 s2 1))))
 else some (.dn (s0, s1)))
def t_additiveref34_Easy_L3_st (k0 : api_Cell) (k1 : api_Cell) (k2 : (FS api_Cell)) (k3 : (FS (A4 Int))) (k4 : (FS (FS Int))) (s : ((FS Int) × (FS (A5 Int)) × Int)) : St := match s with
 | (s0, s1, s2) => ⟨fr [(4, .ptr 4 0 0), (5, .ptr 5 0 0), (10, encF e_api_Cell k2), (11, encF e_a4_i64 k3), (12, encF e_sl_i64 k4), (13, .arr 13 0 0 s0.l.length), (14, .arr 14 0 0 s1.l.length), (16, .int .i64 s2)], hl [(4, .box 0 [.int .i64 k0.X, .int .i64 k0.Y]), (5, .box 0 [.int .i64 k1.X, .int .i64 k1.Y]), (13, .arr 0 1 3 (cellsE e_i64 s0.l) false), (14, .arr 0 5 99 (cellsE e_a5_i64 s1.l) false)]⟩
def t_additiveref34_Easy_L3_out (k0 : api_Cell) (k1 : api_Cell) (k2 : (FS api_Cell)) (k3 : (FS (A4 Int))) (k4 : (FS (FS Int))) (x : ((FS Int) × (FS (A5 Int)))) : LE × St := (.exit 2, ⟨fr [(4, .ptr 4 0 0), (5, .ptr 5 0 0), (10, encF e_api_Cell k2), (11, encF e_a4_i64 k3), (13, .arr 13 0 0 x.1.l.length), (14, .arr 14 0 0 x.2.l.length)], hl [(4, .box 0 [.int .i64 k0.X, .int .i64 k0.Y]), (5, .box 0 [.int .i64 k1.X, .int .i64 k1.Y]), (13, .arr 0 1 3 (cellsE e_i64 x.1.l) false), (14, .arr 0 5 99 (cellsE e_a5_i64 x.2.l) false)]⟩)
theorem t_additiveref34_Easy_L3_ok {k0 : api_Cell} {k1 : api_Cell} {k2 : (FS api_Cell)} {k3 : (FS (A4 Int))} {k4 : (FS (FS Int))} {s : ((FS Int) × (FS (A5 Int)) × Int)} {r : ((FS Int) × (FS (A5 Int)))} (h : loopT (t_additiveref34_Easy_L3 k0 k1 k2 k3 k4) bigN s = some r) : LK env [] 0 [4, 5, 10, 11, 12, 13, 14, 16] c34_L3 (some (t_additiveref34_Easy_L3_st k0 k1 k2 k3 k4 s)) = some (t_additiveref34_Easy_L3_out k0 k1 k2 k3 k4 r) := loop_walk (st := t_additiveref34_Easy_L3_st k0 k1 k2 k3 k4) (out := t_additiveref34_Easy_L3_out k0 k1 k2 k3 k4) (by
  clear h s r
  rintro ⟨s0, s1, s2⟩ x h
  simp only [t_additiveref34_Easy_L3] at h
  by_cases c32 : (ilt s2 (flen k4)) = true
  · rw [if_pos c32] at h
    cases h67 : loopT (t_additiveref34_Easy_L2 k0 k1 k2 k3 k4 s2) bigN (s0, s1, 0) with
    | none => (rw [h67] at h; cases h)
    | some v68 =>
      simp only [h67] at h
      have f69 := t_additiveref34_Easy_L2_ok h67
      simp only [t_additiveref34_Easy_L2_st, t_additiveref34_Easy_L2_out, fset_len] at f69
      try simp only [fcase_nil, fcase_lst, fcase_fsnoc, fcase_fapp, fcase_fset, fcase_frep, fcase_flit, fcase_flst] at f69
      cases h
      show LK env [] 0 [4, 5, 10, 11, 12, 13, 14, 16] c34_L3 (some (t_additiveref34_Easy_L3_st _ _ _ _ _ _)) = LK env [] 0 [4, 5, 10, 11, 12, 13, 14, 16] c34_L3 (some (t_additiveref34_Easy_L3_st _ _ _ _ _ _))
      simp only [t_additiveref34_Easy_L3_st]
      rw [LK_step]
      try simp only [c32] at f69
      simp (maxSteps := 4000000) [c32, f69, e_a4_i64, e_a5_i64, e_bool, e_i64, e_sl_api_Row, e_sl_api_Run, e_sl_i64, e_additiveref34_seen, e_api_Cell, e_api_Region, e_api_Row, e_api_Run, e_comb_state, ↓c34_L0_u, ↓c34_L1_u, ↓c34_L2_u, ↓c34_L3_u, ↓c34_L4_u, c34_0, c34_1, c34_2, c34_3, c34_4, c34_5, c34_6, c34_7, c34_8, c34_9, c34_10, c34_11, c34_12, c34_14, c34_15, c34_16, c34_17, c34_18, c34_19, c34_20, c34_21, c34_22, c34_23, c34_24, c34_26, c34_28, c34_30, c34_31, c34_32, c34_33, c34_34, c34_35, c34_36, c34_37, c34_39]
  · rw [if_neg c32] at h
    rw [Bool.not_eq_true] at c32
    cases h
    show LK env [] 0 [4, 5, 10, 11, 12, 13, 14, 16] c34_L3 (some (t_additiveref34_Easy_L3_st _ _ _ _ _ _)) = some (t_additiveref34_Easy_L3_out _ _ _ _ _ _)
    simp only [t_additiveref34_Easy_L3_st, t_additiveref34_Easy_L3_out]
    rw [LK_step]
    simp (maxSteps := 4000000) [c32, e_a4_i64, e_a5_i64, e_bool, e_i64, e_sl_api_Row, e_sl_api_Run, e_sl_i64, e_additiveref34_seen, e_api_Cell, e_api_Region, e_api_Row, e_api_Run, e_comb_state, ↓c34_L0_u, ↓c34_L1_u, ↓c34_L2_u, ↓c34_L3_u, ↓c34_L4_u, c34_0, c34_1, c34_2, c34_3, c34_4, c34_5, c34_6, c34_7, c34_8, c34_9, c34_10, c34_11, c34_12, c34_14, c34_15, c34_16, c34_17, c34_18, c34_19, c34_20, c34_21, c34_22, c34_23, c34_24, c34_26, c34_28, c34_30, c34_31, c34_32, c34_33, c34_34, c34_35, c34_36, c34_37, c34_39]) bigN s r h
def t_additiveref34_Easy_L4 (k0 : api_Cell) (k1 : (FS api_Cell)) (k2 : (FS (A4 Int))) (k3 : (FS Int)) (k4 : (FS (A5 Int))) (s : (Int × (FS api_Cell) × Int)) : Option (LR (Int × (FS api_Cell) × Int) (FS api_Cell)) := match s with
 | (s0, s1, s2) => (match fget k1 s0 with
 | none => none
 | some v74 => (if (bnot (band (ieq v74.X k0.X) (band (ieq v74.Y k0.Y) true))) = true then (match t_additiveref34_easiest k2 (flst k3) (flst k4) s0 s2 with
 | none => none
 | some v78 => (match fget k2 s0 with
 | none => none
 | some v81 => (if inB v78.1 4 = true then (match fget k1 (A4.get v81 v78.1) with
 | none => none
 | some v87 => (if fits 16 ((flen s1) + 1) = true then some (.nx ((A4.get v81 v78.1), (fsnoc s1 v87), v78.1)) else none)) else none)))
 else some (.dn s1)))
def t_additiveref34_Easy_L4_st (k0 : api_Cell) (k1 : (FS api_Cell)) (k2 : (FS (A4 Int))) (k3 : (FS Int)) (k4 : (FS (A5 Int))) (s : (Int × (FS api_Cell) × Int)) : St := match s with
 | (s0, s1, s2) => ⟨fr [(5, .ptr 5 0 0), (10, encF e_api_Cell k1), (11, encF e_a4_i64 k2), (13, .arr 13 0 0 k3.l.length), (14, .arr 14 0 0 k4.l.length), (22, .int .i64 s0), (23, .arr 23 0 0 s1.l.length), (24, .int .i64 s2)], hl [(5, .box 0 [.int .i64 k0.X, .int .i64 k0.Y]), (13, .arr 0 1 3 (cellsE e_i64 k3.l) false), (14, .arr 0 5 99 (cellsE e_a5_i64 k4.l) false), (23, .arr 0 2 26 (cellsE e_api_Cell s1.l) false)]⟩
def t_additiveref34_Easy_L4_out (k0 : api_Cell) (k1 : (FS api_Cell)) (k2 : (FS (A4 Int))) (k3 : (FS Int)) (k4 : (FS (A5 Int))) (x : (FS api_Cell)) : LE × St := (.exit 8, ⟨fr [(23, .arr 23 0 0 x.l.length)], hl [(23, .arr 0 2 26 (cellsE e_api_Cell x.l) false)]⟩)
theorem t_additiveref34_Easy_L4_ok {k0 : api_Cell} {k1 : (FS api_Cell)} {k2 : (FS (A4 Int))} {k3 : (FS Int)} {k4 : (FS (A5 Int))} {s : (Int × (FS api_Cell) × Int)} {r : (FS api_Cell)} (h : loopT (t_additiveref34_Easy_L4 k0 k1 k2 k3 k4) bigN s = some r) : LK env [] 0 [5, 10, 11, 13, 14, 22, 23, 24] c34_L4 (some (t_additiveref34_Easy_L4_st k0 k1 k2 k3 k4 s)) = some (t_additiveref34_Easy_L4_out k0 k1 k2 k3 k4 r) := loop_walk (st := t_additiveref34_Easy_L4_st k0 k1 k2 k3 k4) (out := t_additiveref34_Easy_L4_out k0 k1 k2 k3 k4) (by
  clear h s r
  rintro ⟨s0, s1, s2⟩ x h
  simp only [t_additiveref34_Easy_L4] at h
  cases h78 : fget k1 s0 with
  | none => (rw [h78] at h; cases h)
  | some v79 =>
    simp only [h78] at h
    have f77 := iaddr_F (e := e_api_Cell) h78
    by_cases c80 : (bnot (band (ieq v79.X k0.X) (band (ieq v79.Y k0.Y) true))) = true
    · rw [if_pos c80] at h
      cases h82 : t_additiveref34_easiest k2 (flst k3) (flst k4) s0 s2 with
      | none => (rw [h82] at h; cases h)
      | some v83 =>
        simp only [h82] at h
        have f81 := t_additiveref34_easiest_ok h82
        try simp only [encF_nil] at f81
        cases h85 : fget k2 s0 with
        | none => (rw [h85] at h; cases h)
        | some v86 =>
          simp only [h85] at h
          have f84 := iaddr_F (e := e_a4_i64) h85
          by_cases h88 : inB v83.1 4 = true
          · rw [if_pos h88] at h
            have f87 := iaddrA_r h88
            have f89 := fun R => (pack_drop false _ _ _ (by decide)).trans (@pack_A4 _ _ e_i64 _ v86 _ h88 [] ([] ++ R) (by decide) false)
            simp only [A4.toL, cellsE, List.flatMap_cons, List.flatMap_nil, List.append_assoc, List.nil_append, List.cons_append, List.append_nil, List.length_cons, List.length_nil, Nat.zero_add, e_i64] at f89
            cases h91 : fget k1 (A4.get v86 v83.1) with
            | none => (rw [h91] at h; cases h)
            | some v92 =>
              simp only [h91] at h
              have f90 := iaddr_F (e := e_api_Cell) h91
              by_cases h94 : fits 16 ((flen s1) + 1) = true
              · rw [if_pos h94] at h
                have f93 := fun g0 H y => @app_row1 _ _ e_api_Cell _ s1 v92 16 h94 (by decide) g0 H 23 0 26 y
                simp only [e_api_Cell] at f93
                cases h
                show LK env [] 0 [5, 10, 11, 13, 14, 22, 23, 24] c34_L4 (some (t_additiveref34_Easy_L4_st _ _ _ _ _ _)) = LK env [] 0 [5, 10, 11, 13, 14, 22, 23, 24] c34_L4 (some (t_additiveref34_Easy_L4_st _ _ _ _ _ _))
                simp only [t_additiveref34_Easy_L4_st]
                rw [LK_step]
                rcases tof (ieq v79.X k0.X) with a95 | a95
                · rcases tof (ieq v79.Y k0.Y) with a96 | a96
                  · simp [a95, a96] at c80
                  · simp (maxSteps := 4000000) [a95, a96, f77, snap_rowD (e := e_i64) (el := 3) (fz := false), snap_rowD (e := e_a5_i64) (el := 99) (fz := false), f81, f84, f87, f89, f90, f93, e_a4_i64, e_a5_i64, e_bool, e_i64, e_sl_api_Row, e_sl_api_Run, e_sl_i64, e_additiveref34_seen, e_api_Cell, e_api_Region, e_api_Row, e_api_Run, e_comb_state, ↓c34_L0_u, ↓c34_L1_u, ↓c34_L2_u, ↓c34_L3_u, ↓c34_L4_u, c34_0, c34_1, c34_2, c34_3, c34_4, c34_5, c34_6, c34_7, c34_8, c34_9, c34_10, c34_11, c34_12, c34_14, c34_15, c34_16, c34_17, c34_18, c34_19, c34_20, c34_21, c34_22, c34_23, c34_24, c34_26, c34_28, c34_30, c34_31, c34_32, c34_33, c34_34, c34_35, c34_36, c34_37, c34_39]
                · simp (maxSteps := 4000000) [a95, f77, snap_rowD (e := e_i64) (el := 3) (fz := false), snap_rowD (e := e_a5_i64) (el := 99) (fz := false), f81, f84, f87, f89, f90, f93, e_a4_i64, e_a5_i64, e_bool, e_i64, e_sl_api_Row, e_sl_api_Run, e_sl_i64, e_additiveref34_seen, e_api_Cell, e_api_Region, e_api_Row, e_api_Run, e_comb_state, ↓c34_L0_u, ↓c34_L1_u, ↓c34_L2_u, ↓c34_L3_u, ↓c34_L4_u, c34_0, c34_1, c34_2, c34_3, c34_4, c34_5, c34_6, c34_7, c34_8, c34_9, c34_10, c34_11, c34_12, c34_14, c34_15, c34_16, c34_17, c34_18, c34_19, c34_20, c34_21, c34_22, c34_23, c34_24, c34_26, c34_28, c34_30, c34_31, c34_32, c34_33, c34_34, c34_35, c34_36, c34_37, c34_39]
              · rw [if_neg h94] at h; cases h
          · rw [if_neg h88] at h; cases h
    · rw [if_neg c80] at h
      rw [Bool.not_eq_true] at c80
      cases h
      show LK env [] 0 [5, 10, 11, 13, 14, 22, 23, 24] c34_L4 (some (t_additiveref34_Easy_L4_st _ _ _ _ _ _)) = some (t_additiveref34_Easy_L4_out _ _ _ _ _ _)
      simp only [t_additiveref34_Easy_L4_st, t_additiveref34_Easy_L4_out]
      rw [LK_step]
      rcases tof (ieq v79.X k0.X) with a97 | a97
      · rcases tof (ieq v79.Y k0.Y) with a98 | a98
        · simp (maxSteps := 4000000) [a97, a98, f77, e_a4_i64, e_a5_i64, e_bool, e_i64, e_sl_api_Row, e_sl_api_Run, e_sl_i64, e_additiveref34_seen, e_api_Cell, e_api_Region, e_api_Row, e_api_Run, e_comb_state, ↓c34_L0_u, ↓c34_L1_u, ↓c34_L2_u, ↓c34_L3_u, ↓c34_L4_u, c34_0, c34_1, c34_2, c34_3, c34_4, c34_5, c34_6, c34_7, c34_8, c34_9, c34_10, c34_11, c34_12, c34_14, c34_15, c34_16, c34_17, c34_18, c34_19, c34_20, c34_21, c34_22, c34_23, c34_24, c34_26, c34_28, c34_30, c34_31, c34_32, c34_33, c34_34, c34_35, c34_36, c34_37, c34_39]
        · simp [a97, a98] at c80
      · simp [a97] at c80) bigN s r h
def t_additiveref34_Easy (p0 : api_Region) (p1 : api_Cell) (p2 : api_Cell) : Option ((FS api_Cell) × Bool) := (match t_additiveref34_Path p0 p1 p2 with
 | none => none
 | some v3 => (if (bnot v3.2) = true then some ((FS.nil : (FS api_Cell)), false)
 else (match t_additiveref18_Cells p0 with
 | none => none
 | some v7 => (match t_additiveref34_table v7 with
 | none => none
 | some v10 => (match t_additiveref34_spot v7 p2 with
 | none => none
 | some v13 => (match t_additiveref34_layers v10 v13 with
 | none => none
 | some v16 => (if mkOK 8 (flen v7) (flen v7) = true then (if mkOK 40 (flen v7) (flen v7) = true then (match loopT (t_additiveref34_Easy_L0 p1 p2 v7 v10 v16) bigN ((frep 0 (flen v7)), (frep (⟨0, 0, 0, 0, 0⟩ : (A5 Int)) (flen v7)), 0) with
 | none => none
 | some v29 => (match loopT (t_additiveref34_Easy_L3 p1 p2 v7 v10 v16) bigN (v29.1, v29.2, 0) with
 | none => none
 | some v66 => (match t_additiveref34_spot v7 p1 with
 | none => none
 | some v70 => (match loopT (t_additiveref34_Easy_L4 p2 v7 v10 v66.1 v66.2) bigN (v70, (flit ([p1] : List api_Cell)), 4) with
 | none => none
 | some v91 => some ((flst v91), true))))) else none) else none)))))))
theorem t_additiveref34_Easy_ok {p0 : api_Region} {p1 : api_Cell} {p2 : api_Cell} {r : ((FS api_Cell) × Bool)} (h : t_additiveref34_Easy p0 p1 p2 = some r) : FC env 34 [.agg [encF e_api_Row p0.Rows], .agg [.int .i64 p1.X, .int .i64 p1.Y], .agg [.int .i64 p2.X, .int .i64 p2.Y]] none = some (.tup [encF e_api_Cell r.1, .bool r.2], fun _ => none) := by
  unfold t_additiveref34_Easy at h
  cases h2 : t_additiveref34_Path p0 p1 p2 with
  | none => (rw [h2] at h; cases h)
  | some v3 =>
    simp only [h2] at h
    have f1 := t_additiveref34_Path_ok h2
    by_cases c4 : (bnot v3.2) = true
    · rw [if_pos c4] at h
      cases h
      refine FC_pure (lf := lf34) rfl rfl rfl ?_
      simp only [lf34, lc34, c34_0, c34_1, c34_2, c34_3, c34_4, c34_5, c34_6, c34_7, c34_8, c34_9, c34_10, c34_11, c34_12, c34_14, c34_15, c34_16, c34_17, c34_18, c34_19, c34_20, c34_21, c34_22, c34_23, c34_24, c34_26, c34_28, c34_30, c34_31, c34_32, c34_33, c34_34, c34_35, c34_36, c34_37, c34_39]
      rcases tof v3.2 with a5 | a5
      · simp [a5] at c4
      · simp (maxSteps := 4000000) [a5, f1, e_a4_i64, e_a5_i64, e_bool, e_i64, e_sl_api_Row, e_sl_api_Run, e_sl_i64, e_additiveref34_seen, e_api_Cell, e_api_Region, e_api_Row, e_api_Run, e_comb_state, ↓c34_L0_u, ↓c34_L1_u, ↓c34_L2_u, ↓c34_L3_u, ↓c34_L4_u, snap_tupE, tupS, snap7_int, snap7_bool, snap7_str, snap7_nils, snap7_agg]
    · rw [if_neg c4] at h
      rw [Bool.not_eq_true] at c4
      cases h7 : t_additiveref18_Cells p0 with
      | none => (rw [h7] at h; cases h)
      | some v8 =>
        simp only [h7] at h
        have f6 := t_additiveref18_Cells_ok h7
        cases h10 : t_additiveref34_table v8 with
        | none => (rw [h10] at h; cases h)
        | some v11 =>
          simp only [h10] at h
          have f9 := t_additiveref34_table_ok h10
          cases h13 : t_additiveref34_spot v8 p2 with
          | none => (rw [h13] at h; cases h)
          | some v14 =>
            simp only [h13] at h
            have f12 := t_additiveref34_spot_ok h13
            cases h16 : t_additiveref34_layers v11 v14 with
            | none => (rw [h16] at h; cases h)
            | some v17 =>
              simp only [h16] at h
              have f15 := t_additiveref34_layers_ok h16
              by_cases h19 : mkOK 8 (flen v8) (flen v8) = true
              · rw [if_pos h19] at h
                have f18 := fun H g0 hg => @mk_row _ _ e_i64 _ 0 8 _ _ h19 H g0 hg 3
                simp only [e_i64] at f18
                by_cases h21 : mkOK 40 (flen v8) (flen v8) = true
                · rw [if_pos h21] at h
                  have f20 := fun H g0 hg => @mk_row _ _ e_a5_i64 _ (⟨0, 0, 0, 0, 0⟩ : (A5 Int)) 40 _ _ h21 H g0 hg 99
                  simp only [e_a5_i64] at f20
                  cases h29 : loopT (t_additiveref34_Easy_L0 p1 p2 v8 v11 v17) bigN ((frep 0 (flen v8)), (frep (⟨0, 0, 0, 0, 0⟩ : (A5 Int)) (flen v8)), 0) with
                  | none => (rw [h29] at h; cases h)
                  | some v30 =>
                    simp only [h29] at h
                    have f31 := t_additiveref34_Easy_L0_ok h29
                    simp only [t_additiveref34_Easy_L0_st, t_additiveref34_Easy_L0_out, fset_len] at f31
                    try simp only [fcase_nil, fcase_lst, fcase_fsnoc, fcase_fapp, fcase_fset, fcase_frep, fcase_flit, fcase_flst] at f31
                    cases h70 : loopT (t_additiveref34_Easy_L3 p1 p2 v8 v11 v17) bigN (v30.1, v30.2, 0) with
                    | none => (rw [h70] at h; cases h)
                    | some v71 =>
                      simp only [h70] at h
                      have f72 := t_additiveref34_Easy_L3_ok h70
                      simp only [t_additiveref34_Easy_L3_st, t_additiveref34_Easy_L3_out, fset_len] at f72
                      try simp only [fcase_nil, fcase_lst, fcase_fsnoc, fcase_fapp, fcase_fset, fcase_frep, fcase_flit, fcase_flst] at f72
                      cases h74 : t_additiveref34_spot v8 p1 with
                      | none => (rw [h74] at h; cases h)
                      | some v75 =>
                        simp only [h74] at h
                        have f73 := t_additiveref34_spot_ok h74
                        have f76 : ∀ (H : Heap) (g0 : Nat), bslV H g0 1 2 26 (some [.int .i64 p1.X, .int .i64 p1.Y]) = some (.arr g0 (newVer H g0) 0 (flit ([p1] : List api_Cell)).l.length, upd H g0 (some (.arr (newVer H g0) 2 26 (cellsE e_api_Cell (flit ([p1] : List api_Cell)).l) false))) := fun H g0 => rfl
                        cases h99 : loopT (t_additiveref34_Easy_L4 p2 v8 v11 v71.1 v71.2) bigN (v75, (flit ([p1] : List api_Cell)), 4) with
                        | none => (rw [h99] at h; cases h)
                        | some v100 =>
                          simp only [h99] at h
                          have f101 := t_additiveref34_Easy_L4_ok h99
                          simp only [t_additiveref34_Easy_L4_st, t_additiveref34_Easy_L4_out, fset_len] at f101
                          try simp only [fcase_nil, fcase_lst, fcase_fsnoc, fcase_fapp, fcase_fset, fcase_frep, fcase_flit, fcase_flst] at f101
                          cases h
                          refine FC_pure (lf := lf34) rfl rfl rfl ?_
                          simp only [lf34, lc34, c34_0, c34_1, c34_2, c34_3, c34_4, c34_5, c34_6, c34_7, c34_8, c34_9, c34_10, c34_11, c34_12, c34_14, c34_15, c34_16, c34_17, c34_18, c34_19, c34_20, c34_21, c34_22, c34_23, c34_24, c34_26, c34_28, c34_30, c34_31, c34_32, c34_33, c34_34, c34_35, c34_36, c34_37, c34_39]
                          rcases tof v3.2 with a102 | a102
                          · try simp only [a102] at f31 f72 f101
                            simp (maxSteps := 4000000) [a102, f1, f6, f9, f12, f15, f18, f20, f31, f72, f73, f76, -bslV_1, f101, e_a4_i64, e_a5_i64, e_bool, e_i64, e_sl_api_Row, e_sl_api_Run, e_sl_i64, e_additiveref34_seen, e_api_Cell, e_api_Region, e_api_Row, e_api_Run, e_comb_state, ↓c34_L0_u, ↓c34_L1_u, ↓c34_L2_u, ↓c34_L3_u, ↓c34_L4_u, snap_row7 (e := e_api_Cell) (el := 26) (fz := false), snap_tupE, tupS, snap7_int, snap7_bool, snap7_str, snap7_nils, snap7_agg]
                          · simp [a102] at c4
                · rw [if_neg h21] at h; cases h
              · rw [if_neg h19] at h; cases h

/-! additivelaw34.CombEasy -/
def t_additivelaw34_CombEasy (p0 : api_Region) (p1 : api_Cell) (p2 : api_Cell) : Option Bool := (match t_additivelaw18_Small p0 with
 | none => none
 | some v3 => (if (bnot v3) = true then some u_additivelaw34_eased
 else (match t_comb_Easy p0 p1 p2 with
 | none => none
 | some v8 => (match t_additiveref34_Easy p0 p1 p2 with
 | none => none
 | some v11 => (match t_additivelaw34_cells v8.1 v11.1 with
 | none => none
 | some v14 => some (band (band v14 (band (beqB v8.2 v11.2) true)) u_additivelaw34_eased))))))
theorem t_additivelaw34_CombEasy_ok {p0 : api_Region} {p1 : api_Cell} {p2 : api_Cell} {r : Bool} (h : t_additivelaw34_CombEasy p0 p1 p2 = some r) : FC env 9 [.agg [encF e_api_Row p0.Rows], .agg [.int .i64 p1.X, .int .i64 p1.Y], .agg [.int .i64 p2.X, .int .i64 p2.Y]] none = some (.bool r, fun _ => none) := by
  unfold t_additivelaw34_CombEasy at h
  cases h2 : t_additivelaw18_Small p0 with
  | none => (rw [h2] at h; cases h)
  | some v3 =>
    simp only [h2] at h
    have f1 := t_additivelaw18_Small_ok h2
    by_cases c4 : (bnot v3) = true
    · rw [if_pos c4] at h
      have f5 := u_additivelaw34_eased_ok 
      cases h
      refine FC_pure (lf := lf9) rfl rfl rfl ?_
      simp only [lf9, lc9, c9_0, c9_1, c9_2, c9_3, c9_4, c9_5]
      rcases tof v3 with a6 | a6
      · simp [a6] at c4
      · simp (maxSteps := 4000000) [a6, f1, f5, e_a4_i64, e_a5_i64, e_bool, e_i64, e_sl_api_Row, e_sl_api_Run, e_sl_i64, e_additiveref34_seen, e_api_Cell, e_api_Region, e_api_Row, e_api_Run, e_comb_state]
    · rw [if_neg c4] at h
      rw [Bool.not_eq_true] at c4
      cases h8 : t_comb_Easy p0 p1 p2 with
      | none => (rw [h8] at h; cases h)
      | some v9 =>
        simp only [h8] at h
        have f7 := t_comb_Easy_ok h8
        cases h11 : t_additiveref34_Easy p0 p1 p2 with
        | none => (rw [h11] at h; cases h)
        | some v12 =>
          simp only [h11] at h
          have f10 := t_additiveref34_Easy_ok h11
          cases h14 : t_additivelaw34_cells v9.1 v12.1 with
          | none => (rw [h14] at h; cases h)
          | some v15 =>
            simp only [h14] at h
            have f13 := t_additivelaw34_cells_ok h14
            have f16 := u_additivelaw34_eased_ok 
            cases h
            refine FC_pure (lf := lf9) rfl rfl rfl ?_
            simp only [lf9, lc9, c9_0, c9_1, c9_2, c9_3, c9_4, c9_5]
            rcases tof v3 with a17 | a17
            · rcases tof v15 with a18 | a18
              · rcases tof (beqB v9.2 v12.2) with a19 | a19
                · simp (maxSteps := 4000000) [a17, a18, a19, f1, f7, f10, f13, f16, e_a4_i64, e_a5_i64, e_bool, e_i64, e_sl_api_Row, e_sl_api_Run, e_sl_i64, e_additiveref34_seen, e_api_Cell, e_api_Region, e_api_Row, e_api_Run, e_comb_state]
                · simp (maxSteps := 4000000) [a17, a18, a19, f1, f7, f10, f13, f16, e_a4_i64, e_a5_i64, e_bool, e_i64, e_sl_api_Row, e_sl_api_Run, e_sl_i64, e_additiveref34_seen, e_api_Cell, e_api_Region, e_api_Row, e_api_Run, e_comb_state]
              · simp (maxSteps := 4000000) [a17, a18, f1, f7, f10, f13, f16, e_a4_i64, e_a5_i64, e_bool, e_i64, e_sl_api_Row, e_sl_api_Run, e_sl_i64, e_additiveref34_seen, e_api_Cell, e_api_Region, e_api_Row, e_api_Run, e_comb_state]
            · simp [a17] at c4

/-! additivelaw34.step -/
def u_additivelaw34_step (p0 : api_Cell) (p1 : api_Cell) : Bool := (ieq (iadd .i64 (imul .i64 (isub .i64 p0.X p1.X) (isub .i64 p0.X p1.X)) (imul .i64 (isub .i64 p0.Y p1.Y) (isub .i64 p0.Y p1.Y))) 1)
def t_additivelaw34_step (p0 : api_Cell) (p1 : api_Cell) : Option Bool := some (u_additivelaw34_step p0 p1)
theorem u_additivelaw34_step_ok (p0 : api_Cell) (p1 : api_Cell) : FC env 28 [.agg [.int .i64 p0.X, .int .i64 p0.Y], .agg [.int .i64 p1.X, .int .i64 p1.Y]] none = some (.bool (u_additivelaw34_step p0 p1), fun _ => none) := by
  unfold u_additivelaw34_step
  refine FC_pure (lf := lf28) rfl rfl rfl ?_
  simp only [lf28, lc28, c28_0, c28_1, c28_2]
  simp (maxSteps := 4000000) [e_a4_i64, e_a5_i64, e_bool, e_i64, e_sl_api_Row, e_sl_api_Run, e_sl_i64, e_additiveref34_seen, e_api_Cell, e_api_Region, e_api_Row, e_api_Run, e_comb_state]
theorem t_additivelaw34_step_ok {p0 : api_Cell} {p1 : api_Cell} {r : Bool} (h : t_additivelaw34_step p0 p1 = some r) : FC env 28 [.agg [.int .i64 p0.X, .int .i64 p0.Y], .agg [.int .i64 p1.X, .int .i64 p1.Y]] none = some (.bool r, fun _ => none) := by
  cases h
  exact u_additivelaw34_step_ok _ _

/-! comb.ok -/
def u_comb_ok (p0 : api_Cell) : Bool := (band (band (band (ige p0.X (-4096)) (ilt p0.X 4096)) (ige p0.Y (-4096))) (ilt p0.Y 4096))
def t_comb_ok (p0 : api_Cell) : Option Bool := some (u_comb_ok p0)
theorem u_comb_ok_ok (p0 : api_Cell) : FC env 51 [.agg [.int .i64 p0.X, .int .i64 p0.Y]] none = some (.bool (u_comb_ok p0), fun _ => none) := by
  unfold u_comb_ok
  refine FC_pure (lf := lf51) rfl rfl rfl ?_
  simp only [lf51, lc51, c51_0, c51_1]
  rcases tof (ige p0.X (-4096)) with a1 | a1
  · rcases tof (ilt p0.X 4096) with a2 | a2
    · rcases tof (ige p0.Y (-4096)) with a3 | a3
      · simp (maxSteps := 4000000) [a1, a2, a3, e_a4_i64, e_a5_i64, e_bool, e_i64, e_sl_api_Row, e_sl_api_Run, e_sl_i64, e_additiveref34_seen, e_api_Cell, e_api_Region, e_api_Row, e_api_Run, e_comb_state]
      · simp (maxSteps := 4000000) [a1, a2, a3, e_a4_i64, e_a5_i64, e_bool, e_i64, e_sl_api_Row, e_sl_api_Run, e_sl_i64, e_additiveref34_seen, e_api_Cell, e_api_Region, e_api_Row, e_api_Run, e_comb_state]
    · simp (maxSteps := 4000000) [a1, a2, e_a4_i64, e_a5_i64, e_bool, e_i64, e_sl_api_Row, e_sl_api_Run, e_sl_i64, e_additiveref34_seen, e_api_Cell, e_api_Region, e_api_Row, e_api_Run, e_comb_state]
  · simp (maxSteps := 4000000) [a1, e_a4_i64, e_a5_i64, e_bool, e_i64, e_sl_api_Row, e_sl_api_Run, e_sl_i64, e_additiveref34_seen, e_api_Cell, e_api_Region, e_api_Row, e_api_Run, e_comb_state]
theorem t_comb_ok_ok {p0 : api_Cell} {r : Bool} (h : t_comb_ok p0 = some r) : FC env 51 [.agg [.int .i64 p0.X, .int .i64 p0.Y]] none = some (.bool r, fun _ => none) := by
  cases h
  exact u_comb_ok_ok _

/-! comb.step -/
def u_comb_step (p0 : api_Cell) (p1 : api_Cell) : api_Cell := (⟨(isub .i64 p1.X p0.X), (isub .i64 p1.Y p0.Y)⟩ : api_Cell)
def t_comb_step (p0 : api_Cell) (p1 : api_Cell) : Option api_Cell := some (u_comb_step p0 p1)
theorem u_comb_step_ok (p0 : api_Cell) (p1 : api_Cell) : FC env 61 [.agg [.int .i64 p0.X, .int .i64 p0.Y], .agg [.int .i64 p1.X, .int .i64 p1.Y]] none = some (.agg [.int .i64 (((u_comb_step p0 p1)).X), .int .i64 (((u_comb_step p0 p1)).Y)], fun _ => none) := by
  unfold u_comb_step
  refine FC_pure (lf := lf61) rfl rfl rfl ?_
  simp only [lf61, lc61, c61_0, c61_1]
  simp (maxSteps := 4000000) [e_a4_i64, e_a5_i64, e_bool, e_i64, e_sl_api_Row, e_sl_api_Run, e_sl_i64, e_additiveref34_seen, e_api_Cell, e_api_Region, e_api_Row, e_api_Run, e_comb_state]
theorem t_comb_step_ok {p0 : api_Cell} {p1 : api_Cell} {r : api_Cell} (h : t_comb_step p0 p1 = some r) : FC env 61 [.agg [.int .i64 p0.X, .int .i64 p0.Y], .agg [.int .i64 p1.X, .int .i64 p1.Y]] none = some (.agg [.int .i64 r.X, .int .i64 r.Y], fun _ => none) := by
  cases h
  exact u_comb_step_ok _ _

/-! comb.way -/
theorem c60_L0_u (Γ : Env) (ps : List Nat) (σ : St) : EC Γ ps 0 c60_L0 σ = EC Γ ps 0 (.seq (.reg false c60_2) (.seq (.cond (.t 9) .skip (.seq (.trim []) (.exit 0))) (.seq (.blk 1 (.seq (.reg false c60_3) (.seq (.seq (.reg false c60_4) (.cond (.t 15) (.seq (.reg false c60_5) (.seq (.trim [2]) .ret)) .skip)) (.seq (.seq (.reg false c60_6) (.cond (.t 17) (.exit 1) .skip)) (.seq (.reg true c60_7) (.seq (.reg false c60_8) (.cond (.t 36) (.seq (.reg false c60_9) (.seq (.trim [2]) .ret)) .skip))))))) (.reg false c60_10)))) σ := rfl
def t_comb_way_L0 (k0 : (FS api_Cell)) (k1 : (FS api_Cell)) (k2 : Int) (s : Int) : Option (LR Int (Bool ⊕ Unit)) := match s with
 | s0 => (if (ilt s0 k2) = true then (match fget k1 s0 with
 | none => none
 | some v4 => (if (bnot (u_comb_ok v4)) = true then some (.dn (.inl false))
 else (if (ieq s0 0) = true then some (.nx (iadd .i64 s0 1))
 else (match fget k0 (isub .i64 s0 1) with
 | none => none
 | some v10 => (if (ine (iadd .i64 (imul .i64 (((u_comb_step v10 v4)).X) (((u_comb_step v10 v4)).X)) (imul .i64 (((u_comb_step v10 v4)).Y) (((u_comb_step v10 v4)).Y))) 1) = true then some (.dn (.inl false))
 else some (.nx (iadd .i64 s0 1)))))))
 else some (.dn (.inr ())))
def t_comb_way_L0_st (k0 : (FS api_Cell)) (k1 : (FS api_Cell)) (k2 : Int) (s : Int) : St := match s with
 | s0 => ⟨fr [(0, encF e_api_Cell k0), (6, encF e_api_Cell k1), (7, .int .i64 k2), (8, .int .i64 s0)], hl []⟩
def t_comb_way_L0_out (k0 : (FS api_Cell)) (k1 : (FS api_Cell)) (k2 : Int) (x : (Bool ⊕ Unit)) : LE × St := match x with
 | .inl x => (.ret, ⟨fr [(2, .bool x)], hl []⟩)
 | .inr x => (.exit 0, ⟨fr [], hl []⟩)
theorem t_comb_way_L0_ok {k0 : (FS api_Cell)} {k1 : (FS api_Cell)} {k2 : Int} {s : Int} {r : (Bool ⊕ Unit)} (h : loopT (t_comb_way_L0 k0 k1 k2) bigN s = some r) : LK env [] 0 [0, 6, 7, 8] c60_L0 (some (t_comb_way_L0_st k0 k1 k2 s)) = some (t_comb_way_L0_out k0 k1 k2 r) := loop_walk (st := t_comb_way_L0_st k0 k1 k2) (out := t_comb_way_L0_out k0 k1 k2) (by
  clear h s r
  rintro s0 x h
  simp only [t_comb_way_L0] at h
  by_cases c1 : (ilt s0 k2) = true
  · rw [if_pos c1] at h
    cases h3 : fget k1 s0 with
    | none => (rw [h3] at h; cases h)
    | some v4 =>
      simp only [h3] at h
      have f2 := iaddr_F (e := e_api_Cell) h3
      have f5 := u_comb_ok_ok v4
      by_cases c6 : (bnot (u_comb_ok v4)) = true
      · rw [if_pos c6] at h
        cases h
        show LK env [] 0 [0, 6, 7, 8] c60_L0 (some (t_comb_way_L0_st _ _ _ _)) = some (t_comb_way_L0_out _ _ _ _)
        simp only [t_comb_way_L0_st, t_comb_way_L0_out]
        rw [LK_step]
        rcases tof (u_comb_ok v4) with a7 | a7
        · simp [c1, a7] at c6
        · simp (maxSteps := 4000000) [c1, a7, f2, f5, e_a4_i64, e_a5_i64, e_bool, e_i64, e_sl_api_Row, e_sl_api_Run, e_sl_i64, e_additiveref34_seen, e_api_Cell, e_api_Region, e_api_Row, e_api_Run, e_comb_state, ↓c60_L0_u, c60_0, c60_1, c60_2, c60_3, c60_4, c60_5, c60_6, c60_7, c60_8, c60_9, c60_10, c60_12]
      · rw [if_neg c6] at h
        rw [Bool.not_eq_true] at c6
        by_cases c8 : (ieq s0 0) = true
        · rw [if_pos c8] at h
          cases h
          show LK env [] 0 [0, 6, 7, 8] c60_L0 (some (t_comb_way_L0_st _ _ _ _)) = LK env [] 0 [0, 6, 7, 8] c60_L0 (some (t_comb_way_L0_st _ _ _ _))
          simp only [t_comb_way_L0_st]
          rw [LK_step]
          rcases tof (u_comb_ok v4) with a9 | a9
          · simp (maxSteps := 4000000) [c1, a9, c8, f2, f5, e_a4_i64, e_a5_i64, e_bool, e_i64, e_sl_api_Row, e_sl_api_Run, e_sl_i64, e_additiveref34_seen, e_api_Cell, e_api_Region, e_api_Row, e_api_Run, e_comb_state, ↓c60_L0_u, c60_0, c60_1, c60_2, c60_3, c60_4, c60_5, c60_6, c60_7, c60_8, c60_9, c60_10, c60_12]
          · simp [c1, a9] at c6
        · rw [if_neg c8] at h
          rw [Bool.not_eq_true] at c8
          cases h11 : fget k0 (isub .i64 s0 1) with
          | none => (rw [h11] at h; cases h)
          | some v12 =>
            simp only [h11] at h
            have f10 := iaddr_F (e := e_api_Cell) h11
            have f13 := u_comb_step_ok v12 v4
            by_cases c14 : (ine (iadd .i64 (imul .i64 (((u_comb_step v12 v4)).X) (((u_comb_step v12 v4)).X)) (imul .i64 (((u_comb_step v12 v4)).Y) (((u_comb_step v12 v4)).Y))) 1) = true
            · rw [if_pos c14] at h
              cases h
              show LK env [] 0 [0, 6, 7, 8] c60_L0 (some (t_comb_way_L0_st _ _ _ _)) = some (t_comb_way_L0_out _ _ _ _)
              simp only [t_comb_way_L0_st, t_comb_way_L0_out]
              rw [LK_step]
              rcases tof (u_comb_ok v4) with a15 | a15
              · simp (maxSteps := 4000000) [c1, a15, c8, c14, f2, f5, f10, f13, e_a4_i64, e_a5_i64, e_bool, e_i64, e_sl_api_Row, e_sl_api_Run, e_sl_i64, e_additiveref34_seen, e_api_Cell, e_api_Region, e_api_Row, e_api_Run, e_comb_state, ↓c60_L0_u, c60_0, c60_1, c60_2, c60_3, c60_4, c60_5, c60_6, c60_7, c60_8, c60_9, c60_10, c60_12]
              · simp [c1, a15] at c6
            · rw [if_neg c14] at h
              rw [Bool.not_eq_true] at c14
              cases h
              show LK env [] 0 [0, 6, 7, 8] c60_L0 (some (t_comb_way_L0_st _ _ _ _)) = LK env [] 0 [0, 6, 7, 8] c60_L0 (some (t_comb_way_L0_st _ _ _ _))
              simp only [t_comb_way_L0_st]
              rw [LK_step]
              rcases tof (u_comb_ok v4) with a16 | a16
              · simp (maxSteps := 4000000) [c1, a16, c8, c14, f2, f5, f10, f13, e_a4_i64, e_a5_i64, e_bool, e_i64, e_sl_api_Row, e_sl_api_Run, e_sl_i64, e_additiveref34_seen, e_api_Cell, e_api_Region, e_api_Row, e_api_Run, e_comb_state, ↓c60_L0_u, c60_0, c60_1, c60_2, c60_3, c60_4, c60_5, c60_6, c60_7, c60_8, c60_9, c60_10, c60_12]
              · simp [c1, a16] at c6
  · rw [if_neg c1] at h
    rw [Bool.not_eq_true] at c1
    cases h
    show LK env [] 0 [0, 6, 7, 8] c60_L0 (some (t_comb_way_L0_st _ _ _ _)) = some (t_comb_way_L0_out _ _ _ _)
    simp only [t_comb_way_L0_st, t_comb_way_L0_out]
    rw [LK_step]
    simp (maxSteps := 4000000) [c1, e_a4_i64, e_a5_i64, e_bool, e_i64, e_sl_api_Row, e_sl_api_Run, e_sl_i64, e_additiveref34_seen, e_api_Cell, e_api_Region, e_api_Row, e_api_Run, e_comb_state, ↓c60_L0_u, c60_0, c60_1, c60_2, c60_3, c60_4, c60_5, c60_6, c60_7, c60_8, c60_9, c60_10, c60_12]) bigN s r h
def t_comb_way (p0 : (FS api_Cell)) : Option Bool := (match loopT (t_comb_way_L0 p0 p0 (flen p0)) bigN 0 with
 | none => none
 | some v14 => (match v14 with
 | .inl v14x => some v14x
 | .inr v14x => some true))
theorem t_comb_way_ok {p0 : (FS api_Cell)} {r : Bool} (h : t_comb_way p0 = some r) : FC env 60 [encF e_api_Cell p0] none = some (.bool r, fun _ => none) := by
  unfold t_comb_way at h
  cases h17 : loopT (t_comb_way_L0 p0 p0 (flen p0)) bigN 0 with
  | none => (rw [h17] at h; cases h)
  | some v18 =>
    simp only [h17] at h
    have f19 := t_comb_way_L0_ok h17
    cases v18 with
    | inl v18x =>
      try simp only at h
      simp only [t_comb_way_L0_st, t_comb_way_L0_out, fset_len] at f19
      try simp only [fcase_nil, fcase_lst, fcase_fsnoc, fcase_fapp, fcase_fset, fcase_frep, fcase_flit, fcase_flst] at f19
      cases h
      refine FC_pure (lf := lf60) rfl rfl rfl ?_
      simp only [lf60, lc60, c60_0, c60_1, c60_2, c60_3, c60_4, c60_5, c60_6, c60_7, c60_8, c60_9, c60_10, c60_12]
      simp (maxSteps := 4000000) [f19, e_a4_i64, e_a5_i64, e_bool, e_i64, e_sl_api_Row, e_sl_api_Run, e_sl_i64, e_additiveref34_seen, e_api_Cell, e_api_Region, e_api_Row, e_api_Run, e_comb_state, ↓c60_L0_u]
    | inr v18x =>
      try simp only at h
      simp only [t_comb_way_L0_st, t_comb_way_L0_out, fset_len] at f19
      try simp only [fcase_nil, fcase_lst, fcase_fsnoc, fcase_fapp, fcase_fset, fcase_frep, fcase_flit, fcase_flst] at f19
      cases h
      refine FC_pure (lf := lf60) rfl rfl rfl ?_
      simp only [lf60, lc60, c60_0, c60_1, c60_2, c60_3, c60_4, c60_5, c60_6, c60_7, c60_8, c60_9, c60_10, c60_12]
      simp (maxSteps := 4000000) [f19, e_a4_i64, e_a5_i64, e_bool, e_i64, e_sl_api_Row, e_sl_api_Run, e_sl_i64, e_additiveref34_seen, e_api_Cell, e_api_Region, e_api_Row, e_api_Run, e_comb_state, ↓c60_L0_u]

/-! comb.Turns -/
theorem c30_L0_u (Γ : Env) (ps : List Nat) (σ : St) : EC Γ ps 0 c30_L0 σ = EC Γ ps 0 (.seq (.seq (.reg false c30_5) (.cond (.t 12) .skip (.seq (.trim [3]) (.exit 0)))) (.seq (.blk 1 (.seq (.reg true c30_6) (.cond (.t 35) (.reg false c30_7) .skip))) (.reg false c30_8))) σ := rfl
def t_comb_Turns_L0 (k0 : (FS api_Cell)) (s : (Int × Int)) : Option (LR (Int × Int) Int) := match s with
 | (s0, s1) => (if (ilt (iadd .i64 s1 1) (flen k0)) = true then (match fget k0 (isub .i64 s1 1) with
 | none => none
 | some v8 => (match fget k0 s1 with
 | none => none
 | some v11 => (match fget k0 (iadd .i64 s1 1) with
 | none => none
 | some v16 => (if (bnot (band (ieq (((u_comb_step v8 v11)).X) (((u_comb_step v11 v16)).X)) (band (ieq (((u_comb_step v8 v11)).Y) (((u_comb_step v11 v16)).Y)) true))) = true then some (.nx ((iadd .i64 s0 1), (iadd .i64 s1 1)))
 else some (.nx (s0, (iadd .i64 s1 1)))))))
 else some (.dn s0))
def t_comb_Turns_L0_st (k0 : (FS api_Cell)) (s : (Int × Int)) : St := match s with
 | (s0, s1) => ⟨fr [(0, encF e_api_Cell k0), (3, .int .i64 s0), (4, .int .i64 s1)], hl []⟩
def t_comb_Turns_L0_out (k0 : (FS api_Cell)) (x : Int) : LE × St := (.exit 0, ⟨fr [(3, .int .i64 x)], hl []⟩)
theorem t_comb_Turns_L0_ok {k0 : (FS api_Cell)} {s : (Int × Int)} {r : Int} (h : loopT (t_comb_Turns_L0 k0) bigN s = some r) : LK env [] 0 [0, 3, 4] c30_L0 (some (t_comb_Turns_L0_st k0 s)) = some (t_comb_Turns_L0_out k0 r) := loop_walk (st := t_comb_Turns_L0_st k0) (out := t_comb_Turns_L0_out k0) (by
  clear h s r
  rintro ⟨s0, s1⟩ x h
  simp only [t_comb_Turns_L0] at h
  by_cases c6 : (ilt (iadd .i64 s1 1) (flen k0)) = true
  · rw [if_pos c6] at h
    cases h8 : fget k0 (isub .i64 s1 1) with
    | none => (rw [h8] at h; cases h)
    | some v9 =>
      simp only [h8] at h
      have f7 := iaddr_F (e := e_api_Cell) h8
      cases h11 : fget k0 s1 with
      | none => (rw [h11] at h; cases h)
      | some v12 =>
        simp only [h11] at h
        have f10 := iaddr_F (e := e_api_Cell) h11
        have f13 := u_comb_step_ok v9 v12
        cases h16 : fget k0 (iadd .i64 s1 1) with
        | none => (rw [h16] at h; cases h)
        | some v17 =>
          simp only [h16] at h
          have f15 := iaddr_F (e := e_api_Cell) h16
          have f18 := u_comb_step_ok v12 v17
          by_cases c19 : (bnot (band (ieq (((u_comb_step v9 v12)).X) (((u_comb_step v12 v17)).X)) (band (ieq (((u_comb_step v9 v12)).Y) (((u_comb_step v12 v17)).Y)) true))) = true
          · rw [if_pos c19] at h
            cases h
            show LK env [] 0 [0, 3, 4] c30_L0 (some (t_comb_Turns_L0_st _ _)) = LK env [] 0 [0, 3, 4] c30_L0 (some (t_comb_Turns_L0_st _ _))
            simp only [t_comb_Turns_L0_st]
            rw [LK_step]
            rcases tof (ieq (((u_comb_step v9 v12)).X) (((u_comb_step v12 v17)).X)) with a20 | a20
            · rcases tof (ieq (((u_comb_step v9 v12)).Y) (((u_comb_step v12 v17)).Y)) with a21 | a21
              · simp [c6, a20, a21] at c19
              · simp (maxSteps := 4000000) [c6, a20, a21, f7, f10, f13, f15, f18, e_a4_i64, e_a5_i64, e_bool, e_i64, e_sl_api_Row, e_sl_api_Run, e_sl_i64, e_additiveref34_seen, e_api_Cell, e_api_Region, e_api_Row, e_api_Run, e_comb_state, ↓c30_L0_u, c30_0, c30_1, c30_2, c30_3, c30_4, c30_5, c30_6, c30_7, c30_8, c30_10]
            · simp (maxSteps := 4000000) [c6, a20, f7, f10, f13, f15, f18, e_a4_i64, e_a5_i64, e_bool, e_i64, e_sl_api_Row, e_sl_api_Run, e_sl_i64, e_additiveref34_seen, e_api_Cell, e_api_Region, e_api_Row, e_api_Run, e_comb_state, ↓c30_L0_u, c30_0, c30_1, c30_2, c30_3, c30_4, c30_5, c30_6, c30_7, c30_8, c30_10]
          · rw [if_neg c19] at h
            rw [Bool.not_eq_true] at c19
            cases h
            show LK env [] 0 [0, 3, 4] c30_L0 (some (t_comb_Turns_L0_st _ _)) = LK env [] 0 [0, 3, 4] c30_L0 (some (t_comb_Turns_L0_st _ _))
            simp only [t_comb_Turns_L0_st]
            rw [LK_step]
            rcases tof (ieq (((u_comb_step v9 v12)).X) (((u_comb_step v12 v17)).X)) with a22 | a22
            · rcases tof (ieq (((u_comb_step v9 v12)).Y) (((u_comb_step v12 v17)).Y)) with a23 | a23
              · simp (maxSteps := 4000000) [c6, a22, a23, f7, f10, f13, f15, f18, e_a4_i64, e_a5_i64, e_bool, e_i64, e_sl_api_Row, e_sl_api_Run, e_sl_i64, e_additiveref34_seen, e_api_Cell, e_api_Region, e_api_Row, e_api_Run, e_comb_state, ↓c30_L0_u, c30_0, c30_1, c30_2, c30_3, c30_4, c30_5, c30_6, c30_7, c30_8, c30_10]
              · simp [c6, a22, a23] at c19
            · simp [c6, a22] at c19
  · rw [if_neg c6] at h
    rw [Bool.not_eq_true] at c6
    cases h
    show LK env [] 0 [0, 3, 4] c30_L0 (some (t_comb_Turns_L0_st _ _)) = some (t_comb_Turns_L0_out _ _)
    simp only [t_comb_Turns_L0_st, t_comb_Turns_L0_out]
    rw [LK_step]
    simp (maxSteps := 4000000) [c6, e_a4_i64, e_a5_i64, e_bool, e_i64, e_sl_api_Row, e_sl_api_Run, e_sl_i64, e_additiveref34_seen, e_api_Cell, e_api_Region, e_api_Row, e_api_Run, e_comb_state, ↓c30_L0_u, c30_0, c30_1, c30_2, c30_3, c30_4, c30_5, c30_6, c30_7, c30_8, c30_10]) bigN s r h
def t_comb_Turns (p0 : (FS api_Cell)) : Option Int := (match t_comb_way p0 with
 | none => none
 | some v3 => (if (bnot v3) = true then some 0
 else (match loopT (t_comb_Turns_L0 p0) bigN (0, 1) with
 | none => none
 | some v20 => some v20)))
theorem t_comb_Turns_ok {p0 : (FS api_Cell)} {r : Int} (h : t_comb_Turns p0 = some r) : FC env 30 [encF e_api_Cell p0] none = some (.int .i64 r, fun _ => none) := by
  unfold t_comb_Turns at h
  cases h2 : t_comb_way p0 with
  | none => (rw [h2] at h; cases h)
  | some v3 =>
    simp only [h2] at h
    have f1 := t_comb_way_ok h2
    by_cases c4 : (bnot v3) = true
    · rw [if_pos c4] at h
      cases h
      refine FC_pure (lf := lf30) rfl rfl rfl ?_
      simp only [lf30, lc30, c30_0, c30_1, c30_2, c30_3, c30_4, c30_5, c30_6, c30_7, c30_8, c30_10]
      rcases tof v3 with a5 | a5
      · simp [a5] at c4
      · simp (maxSteps := 4000000) [a5, f1, e_a4_i64, e_a5_i64, e_bool, e_i64, e_sl_api_Row, e_sl_api_Run, e_sl_i64, e_additiveref34_seen, e_api_Cell, e_api_Region, e_api_Row, e_api_Run, e_comb_state, ↓c30_L0_u]
    · rw [if_neg c4] at h
      rw [Bool.not_eq_true] at c4
      cases h24 : loopT (t_comb_Turns_L0 p0) bigN (0, 1) with
      | none => (rw [h24] at h; cases h)
      | some v25 =>
        simp only [h24] at h
        have f26 := t_comb_Turns_L0_ok h24
        simp only [t_comb_Turns_L0_st, t_comb_Turns_L0_out, fset_len] at f26
        try simp only [fcase_nil, fcase_lst, fcase_fsnoc, fcase_fapp, fcase_fset, fcase_frep, fcase_flit, fcase_flst] at f26
        cases h
        refine FC_pure (lf := lf30) rfl rfl rfl ?_
        simp only [lf30, lc30, c30_0, c30_1, c30_2, c30_3, c30_4, c30_5, c30_6, c30_7, c30_8, c30_10]
        rcases tof v3 with a27 | a27
        · try simp only [a27] at f26
          simp (maxSteps := 4000000) [a27, f1, f26, e_a4_i64, e_a5_i64, e_bool, e_i64, e_sl_api_Row, e_sl_api_Run, e_sl_i64, e_additiveref34_seen, e_api_Cell, e_api_Region, e_api_Row, e_api_Run, e_comb_state, ↓c30_L0_u]
        · simp [a27] at c4

/-! additivelaw34.CombEasier -/
theorem c10_L0_u (Γ : Env) (ps : List Nat) (σ : St) : EC Γ ps 0 c10_L0 σ = EC Γ ps 0 (.seq (.seq (.reg false c10_11) (.cond (.t 72) .skip (.seq (.trim [4, 5, 7, 9, 11]) (.exit 0)))) (.seq (.blk 1 (.seq (.reg true c10_12) (.cond (.t 98) (.seq (.reg false c10_13) (.seq (.trim [6]) .ret)) .skip))) (.reg false c10_14))) σ := rfl
def t_additivelaw34_CombEasier_L0 (k0 : api_Region) (k1 : api_Cell) (k2 : api_Cell) (k3 : (FS api_Cell)) (k4 : (FS api_Cell)) (k5 : (FS api_Cell)) (s : Int) : Option (LR Int (Bool ⊕ Unit)) := match s with
 | s0 => (if (ilt s0 (flen k3)) = true then (match fget k3 s0 with
 | none => none
 | some v21 => (match t_additiveref18_Contains k0 v21 with
 | none => none
 | some v24 => (match gOpt (band (bnot (bnot v24)) (igt s0 0)) (fget k3 (isub .i64 s0 1)) with
 | none => none
 | some v27 => (if (bor (bnot v24) (band (igt s0 0) (bnot (u_additivelaw34_step (v27.getD (⟨0, 0⟩ : api_Cell)) v21)))) = true then some (.dn (.inl false))
 else some (.nx (iadd .i64 s0 1))))))
 else some (.dn (.inr ())))
def t_additivelaw34_CombEasier_L0_st (k0 : api_Region) (k1 : api_Cell) (k2 : api_Cell) (k3 : (FS api_Cell)) (k4 : (FS api_Cell)) (k5 : (FS api_Cell)) (s : Int) : St := match s with
 | s0 => ⟨fr [(3, .ptr 3 0 0), (4, .ptr 4 0 0), (5, .ptr 5 0 0), (7, encF e_api_Cell k3), (9, encF e_api_Cell k4), (11, encF e_api_Cell k5), (13, .int .i64 s0)], hl [(3, .box 0 [encF e_api_Row k0.Rows]), (4, .box 0 [.int .i64 k1.X, .int .i64 k1.Y]), (5, .box 0 [.int .i64 k2.X, .int .i64 k2.Y])]⟩
def t_additivelaw34_CombEasier_L0_out (k0 : api_Region) (k1 : api_Cell) (k2 : api_Cell) (k3 : (FS api_Cell)) (k4 : (FS api_Cell)) (k5 : (FS api_Cell)) (x : (Bool ⊕ Unit)) : LE × St := match x with
 | .inl x => (.ret, ⟨fr [(6, .bool x)], hl []⟩)
 | .inr x => (.exit 0, ⟨fr [(4, .ptr 4 0 0), (5, .ptr 5 0 0), (7, encF e_api_Cell k3), (9, encF e_api_Cell k4), (11, encF e_api_Cell k5)], hl [(4, .box 0 [.int .i64 k1.X, .int .i64 k1.Y]), (5, .box 0 [.int .i64 k2.X, .int .i64 k2.Y])]⟩)
theorem t_additivelaw34_CombEasier_L0_ok {k0 : api_Region} {k1 : api_Cell} {k2 : api_Cell} {k3 : (FS api_Cell)} {k4 : (FS api_Cell)} {k5 : (FS api_Cell)} {s : Int} {r : (Bool ⊕ Unit)} (h : loopT (t_additivelaw34_CombEasier_L0 k0 k1 k2 k3 k4 k5) bigN s = some r) : LK env [] 0 [3, 4, 5, 7, 9, 11, 13] c10_L0 (some (t_additivelaw34_CombEasier_L0_st k0 k1 k2 k3 k4 k5 s)) = some (t_additivelaw34_CombEasier_L0_out k0 k1 k2 k3 k4 k5 r) := loop_walk (st := t_additivelaw34_CombEasier_L0_st k0 k1 k2 k3 k4 k5) (out := t_additivelaw34_CombEasier_L0_out k0 k1 k2 k3 k4 k5) (by
  clear h s r
  rintro s0 x h
  simp only [t_additivelaw34_CombEasier_L0] at h
  by_cases c31 : (ilt s0 (flen k3)) = true
  · rw [if_pos c31] at h
    cases h33 : fget k3 s0 with
    | none => (rw [h33] at h; cases h)
    | some v34 =>
      simp only [h33] at h
      have f32 := iaddr_F (e := e_api_Cell) h33
      cases h36 : t_additiveref18_Contains k0 v34 with
      | none => (rw [h36] at h; cases h)
      | some v37 =>
        simp only [h36] at h
        have f35 := t_additiveref18_Contains_ok h36
        cases h39 : gOpt (band (bnot (bnot v37)) (igt s0 0)) (fget k3 (isub .i64 s0 1)) with
        | none => (rw [h39] at h; cases h)
        | some v40 =>
          simp only [h39] at h
          have f38 := fun (q0 : (bnot v37) = false) (q1 : (igt s0 0) = true) => iaddr_F (e := e_api_Cell) (gOpt_getD (⟨0, 0⟩ : api_Cell) h39 (band_mk (bnot_mk q0) q1))
          have f42 := u_additivelaw34_step_ok (v40.getD (⟨0, 0⟩ : api_Cell)) v34
          by_cases c43 : (bor (bnot v37) (band (igt s0 0) (bnot (u_additivelaw34_step (v40.getD (⟨0, 0⟩ : api_Cell)) v34)))) = true
          · rw [if_pos c43] at h
            cases h
            show LK env [] 0 [3, 4, 5, 7, 9, 11, 13] c10_L0 (some (t_additivelaw34_CombEasier_L0_st _ _ _ _ _ _ _)) = some (t_additivelaw34_CombEasier_L0_out _ _ _ _ _ _ _)
            simp only [t_additivelaw34_CombEasier_L0_st, t_additivelaw34_CombEasier_L0_out]
            rw [LK_step]
            rcases tof v37 with a44 | a44
            · rcases tof (igt s0 0) with a45 | a45
              · rcases tof (u_additivelaw34_step (v40.getD (⟨0, 0⟩ : api_Cell)) v34) with a46 | a46
                · simp [c31, a44, a45, a46] at c43
                · simp (maxSteps := 4000000) [c31, a44, a45, a46, f32, f35, f38, f42, e_a4_i64, e_a5_i64, e_bool, e_i64, e_sl_api_Row, e_sl_api_Run, e_sl_i64, e_additiveref34_seen, e_api_Cell, e_api_Region, e_api_Row, e_api_Run, e_comb_state, ↓c10_L0_u, c10_0, c10_1, c10_2, c10_3, c10_4, c10_5, c10_6, c10_7, c10_8, c10_9, c10_10, c10_11, c10_12, c10_13, c10_14, c10_16]
              · simp [c31, a44, a45] at c43
            · simp (maxSteps := 4000000) [c31, a44, f32, f35, f38, f42, e_a4_i64, e_a5_i64, e_bool, e_i64, e_sl_api_Row, e_sl_api_Run, e_sl_i64, e_additiveref34_seen, e_api_Cell, e_api_Region, e_api_Row, e_api_Run, e_comb_state, ↓c10_L0_u, c10_0, c10_1, c10_2, c10_3, c10_4, c10_5, c10_6, c10_7, c10_8, c10_9, c10_10, c10_11, c10_12, c10_13, c10_14, c10_16]
          · rw [if_neg c43] at h
            rw [Bool.not_eq_true] at c43
            cases h
            show LK env [] 0 [3, 4, 5, 7, 9, 11, 13] c10_L0 (some (t_additivelaw34_CombEasier_L0_st _ _ _ _ _ _ _)) = LK env [] 0 [3, 4, 5, 7, 9, 11, 13] c10_L0 (some (t_additivelaw34_CombEasier_L0_st _ _ _ _ _ _ _))
            simp only [t_additivelaw34_CombEasier_L0_st]
            rw [LK_step]
            rcases tof v37 with a47 | a47
            · rcases tof (igt s0 0) with a48 | a48
              · rcases tof (u_additivelaw34_step (v40.getD (⟨0, 0⟩ : api_Cell)) v34) with a49 | a49
                · simp (maxSteps := 4000000) [c31, a47, a48, a49, f32, f35, f38, f42, e_a4_i64, e_a5_i64, e_bool, e_i64, e_sl_api_Row, e_sl_api_Run, e_sl_i64, e_additiveref34_seen, e_api_Cell, e_api_Region, e_api_Row, e_api_Run, e_comb_state, ↓c10_L0_u, c10_0, c10_1, c10_2, c10_3, c10_4, c10_5, c10_6, c10_7, c10_8, c10_9, c10_10, c10_11, c10_12, c10_13, c10_14, c10_16]
                · simp [c31, a47, a48, a49] at c43
              · simp (maxSteps := 4000000) [c31, a47, a48, f32, f35, f38, f42, e_a4_i64, e_a5_i64, e_bool, e_i64, e_sl_api_Row, e_sl_api_Run, e_sl_i64, e_additiveref34_seen, e_api_Cell, e_api_Region, e_api_Row, e_api_Run, e_comb_state, ↓c10_L0_u, c10_0, c10_1, c10_2, c10_3, c10_4, c10_5, c10_6, c10_7, c10_8, c10_9, c10_10, c10_11, c10_12, c10_13, c10_14, c10_16]
            · simp [c31, a47] at c43
  · rw [if_neg c31] at h
    rw [Bool.not_eq_true] at c31
    cases h
    show LK env [] 0 [3, 4, 5, 7, 9, 11, 13] c10_L0 (some (t_additivelaw34_CombEasier_L0_st _ _ _ _ _ _ _)) = some (t_additivelaw34_CombEasier_L0_out _ _ _ _ _ _ _)
    simp only [t_additivelaw34_CombEasier_L0_st, t_additivelaw34_CombEasier_L0_out]
    rw [LK_step]
    simp (maxSteps := 4000000) [c31, e_a4_i64, e_a5_i64, e_bool, e_i64, e_sl_api_Row, e_sl_api_Run, e_sl_i64, e_additiveref34_seen, e_api_Cell, e_api_Region, e_api_Row, e_api_Run, e_comb_state, ↓c10_L0_u, c10_0, c10_1, c10_2, c10_3, c10_4, c10_5, c10_6, c10_7, c10_8, c10_9, c10_10, c10_11, c10_12, c10_13, c10_14, c10_16]) bigN s r h
def t_additivelaw34_CombEasier (p0 : api_Region) (p1 : api_Cell) (p2 : api_Cell) : Option Bool := (match t_additivelaw18_Small p0 with
 | none => none
 | some v3 => (if (bnot v3) = true then some u_additivelaw34_eased
 else (match t_comb_Easy p0 p1 p2 with
 | none => none
 | some v8 => (match t_comb_Path p0 p1 p2 with
 | none => none
 | some v11 => (match t_comb_Easy p0 p2 p1 with
 | none => none
 | some v14 => (if (bor (bor (bor (bnot (band (beqB v8.2 v11.2) true)) (bnot (band (beqB v14.2 v11.2) true))) (ine (flen v8.1) (flen v11.1))) (ine (flen v14.1) (flen v11.1))) = true then some false
 else (if (bnot v8.2) = true then some (band (ieq (flen v8.1) 0) u_additivelaw34_eased)
 else (match loopT (t_additivelaw34_CombEasier_L0 p0 p1 p2 v8.1 v11.1 v14.1) bigN 0 with
 | none => none
 | some v32 => (match v32 with
 | .inl v32x => some v32x
 | .inr v32x => (match gOpt (igt (flen v8.1) 0) (fget v8.1 0) with
 | none => none
 | some v36 => (match gOpt (band (igt (flen v8.1) 0) (band (ieq (((v36.getD (⟨0, 0⟩ : api_Cell))).X) p1.X) (band (ieq (((v36.getD (⟨0, 0⟩ : api_Cell))).Y) p1.Y) true))) (fget v8.1 (isub .i64 (flen v8.1) 1)) with
 | none => none
 | some v39 => (match gOpt (band (band (igt (flen v8.1) 0) (band (ieq (((v36.getD (⟨0, 0⟩ : api_Cell))).X) p1.X) (band (ieq (((v36.getD (⟨0, 0⟩ : api_Cell))).Y) p1.Y) true))) (band (ieq (((v39.getD (⟨0, 0⟩ : api_Cell))).X) p2.X) (band (ieq (((v39.getD (⟨0, 0⟩ : api_Cell))).Y) p2.Y) true))) (t_comb_Turns v8.1) with
 | none => none
 | some v42 => (match gOpt (band (band (igt (flen v8.1) 0) (band (ieq (((v36.getD (⟨0, 0⟩ : api_Cell))).X) p1.X) (band (ieq (((v36.getD (⟨0, 0⟩ : api_Cell))).Y) p1.Y) true))) (band (ieq (((v39.getD (⟨0, 0⟩ : api_Cell))).X) p2.X) (band (ieq (((v39.getD (⟨0, 0⟩ : api_Cell))).Y) p2.Y) true))) (t_comb_Turns v11.1) with
 | none => none
 | some v45 => (match gOpt (band (band (band (igt (flen v8.1) 0) (band (ieq (((v36.getD (⟨0, 0⟩ : api_Cell))).X) p1.X) (band (ieq (((v36.getD (⟨0, 0⟩ : api_Cell))).Y) p1.Y) true))) (band (ieq (((v39.getD (⟨0, 0⟩ : api_Cell))).X) p2.X) (band (ieq (((v39.getD (⟨0, 0⟩ : api_Cell))).Y) p2.Y) true))) (ile (v42.getD 0) (v45.getD 0))) (t_comb_Turns v8.1) with
 | none => none
 | some v48 => (match gOpt (band (band (band (igt (flen v8.1) 0) (band (ieq (((v36.getD (⟨0, 0⟩ : api_Cell))).X) p1.X) (band (ieq (((v36.getD (⟨0, 0⟩ : api_Cell))).Y) p1.Y) true))) (band (ieq (((v39.getD (⟨0, 0⟩ : api_Cell))).X) p2.X) (band (ieq (((v39.getD (⟨0, 0⟩ : api_Cell))).Y) p2.Y) true))) (ile (v42.getD 0) (v45.getD 0))) (t_comb_Turns v14.1) with
 | none => none
 | some v52 => some (band (band (band (band (band (igt (flen v8.1) 0) (band (ieq (((v36.getD (⟨0, 0⟩ : api_Cell))).X) p1.X) (band (ieq (((v36.getD (⟨0, 0⟩ : api_Cell))).Y) p1.Y) true))) (band (ieq (((v39.getD (⟨0, 0⟩ : api_Cell))).X) p2.X) (band (ieq (((v39.getD (⟨0, 0⟩ : api_Cell))).Y) p2.Y) true))) (ile (v42.getD 0) (v45.getD 0))) (ieq (v48.getD 0) (v52.getD 0))) u_additivelaw34_eased))))))))))))))))
theorem t_additivelaw34_CombEasier_ok {p0 : api_Region} {p1 : api_Cell} {p2 : api_Cell} {r : Bool} (h : t_additivelaw34_CombEasier p0 p1 p2 = some r) : FC env 10 [.agg [encF e_api_Row p0.Rows], .agg [.int .i64 p1.X, .int .i64 p1.Y], .agg [.int .i64 p2.X, .int .i64 p2.Y]] none = some (.bool r, fun _ => none) := by
  unfold t_additivelaw34_CombEasier at h
  cases h2 : t_additivelaw18_Small p0 with
  | none => (rw [h2] at h; cases h)
  | some v3 =>
    simp only [h2] at h
    have f1 := t_additivelaw18_Small_ok h2
    by_cases c4 : (bnot v3) = true
    · rw [if_pos c4] at h
      have f5 := u_additivelaw34_eased_ok 
      cases h
      refine FC_pure (lf := lf10) rfl rfl rfl ?_
      simp only [lf10, lc10, c10_0, c10_1, c10_2, c10_3, c10_4, c10_5, c10_6, c10_7, c10_8, c10_9, c10_10, c10_11, c10_12, c10_13, c10_14, c10_16]
      rcases tof v3 with a6 | a6
      · simp [a6] at c4
      · simp (maxSteps := 4000000) [a6, f1, f5, e_a4_i64, e_a5_i64, e_bool, e_i64, e_sl_api_Row, e_sl_api_Run, e_sl_i64, e_additiveref34_seen, e_api_Cell, e_api_Region, e_api_Row, e_api_Run, e_comb_state, ↓c10_L0_u]
    · rw [if_neg c4] at h
      rw [Bool.not_eq_true] at c4
      cases h8 : t_comb_Easy p0 p1 p2 with
      | none => (rw [h8] at h; cases h)
      | some v9 =>
        simp only [h8] at h
        have f7 := t_comb_Easy_ok h8
        cases h11 : t_comb_Path p0 p1 p2 with
        | none => (rw [h11] at h; cases h)
        | some v12 =>
          simp only [h11] at h
          have f10 := t_comb_Path_ok h11
          cases h14 : t_comb_Easy p0 p2 p1 with
          | none => (rw [h14] at h; cases h)
          | some v15 =>
            simp only [h14] at h
            have f13 := t_comb_Easy_ok h14
            by_cases c16 : (bor (bor (bor (bnot (band (beqB v9.2 v12.2) true)) (bnot (band (beqB v15.2 v12.2) true))) (ine (flen v9.1) (flen v12.1))) (ine (flen v15.1) (flen v12.1))) = true
            · rw [if_pos c16] at h
              cases h
              refine FC_pure (lf := lf10) rfl rfl rfl ?_
              simp only [lf10, lc10, c10_0, c10_1, c10_2, c10_3, c10_4, c10_5, c10_6, c10_7, c10_8, c10_9, c10_10, c10_11, c10_12, c10_13, c10_14, c10_16]
              rcases tof v3 with a17 | a17
              · rcases tof (beqB v9.2 v12.2) with a18 | a18
                · rcases tof (beqB v15.2 v12.2) with a19 | a19
                  · rcases tof (ine (flen v9.1) (flen v12.1)) with a20 | a20
                    · simp (maxSteps := 4000000) [a17, a18, a19, a20, f1, f7, f10, f13, e_a4_i64, e_a5_i64, e_bool, e_i64, e_sl_api_Row, e_sl_api_Run, e_sl_i64, e_additiveref34_seen, e_api_Cell, e_api_Region, e_api_Row, e_api_Run, e_comb_state, ↓c10_L0_u]
                    · rcases tof (ine (flen v15.1) (flen v12.1)) with a21 | a21
                      · simp (maxSteps := 4000000) [a17, a18, a19, a20, a21, f1, f7, f10, f13, e_a4_i64, e_a5_i64, e_bool, e_i64, e_sl_api_Row, e_sl_api_Run, e_sl_i64, e_additiveref34_seen, e_api_Cell, e_api_Region, e_api_Row, e_api_Run, e_comb_state, ↓c10_L0_u]
                      · simp [a17, a18, a19, a20, a21] at c16
                  · simp (maxSteps := 4000000) [a17, a18, a19, f1, f7, f10, f13, e_a4_i64, e_a5_i64, e_bool, e_i64, e_sl_api_Row, e_sl_api_Run, e_sl_i64, e_additiveref34_seen, e_api_Cell, e_api_Region, e_api_Row, e_api_Run, e_comb_state, ↓c10_L0_u]
                · simp (maxSteps := 4000000) [a17, a18, f1, f7, f10, f13, e_a4_i64, e_a5_i64, e_bool, e_i64, e_sl_api_Row, e_sl_api_Run, e_sl_i64, e_additiveref34_seen, e_api_Cell, e_api_Region, e_api_Row, e_api_Run, e_comb_state, ↓c10_L0_u]
              · simp [a17] at c4
            · rw [if_neg c16] at h
              rw [Bool.not_eq_true] at c16
              by_cases c22 : (bnot v9.2) = true
              · rw [if_pos c22] at h
                have f23 := u_additivelaw34_eased_ok 
                cases h
                refine FC_pure (lf := lf10) rfl rfl rfl ?_
                simp only [lf10, lc10, c10_0, c10_1, c10_2, c10_3, c10_4, c10_5, c10_6, c10_7, c10_8, c10_9, c10_10, c10_11, c10_12, c10_13, c10_14, c10_16]
                rcases tof v3 with a24 | a24
                · rcases tof (beqB v9.2 v12.2) with a25 | a25
                  · rcases tof (beqB v15.2 v12.2) with a26 | a26
                    · rcases tof (ine (flen v9.1) (flen v12.1)) with a27 | a27
                      · simp [a24, a25, a26, a27] at c16
                      · rcases tof (ine (flen v15.1) (flen v12.1)) with a28 | a28
                        · simp [a24, a25, a26, a27, a28] at c16
                        · rcases tof v9.2 with a29 | a29
                          · simp [a24, a25, a26, a27, a28, a29] at c22
                          · rcases tof (ieq (flen v9.1) 0) with a30 | a30
                            · try simp only [a29] at a25
                              simp (maxSteps := 4000000) [a24, a25, a26, a27, a28, a29, a30, f1, f7, f10, f13, f23, e_a4_i64, e_a5_i64, e_bool, e_i64, e_sl_api_Row, e_sl_api_Run, e_sl_i64, e_additiveref34_seen, e_api_Cell, e_api_Region, e_api_Row, e_api_Run, e_comb_state, ↓c10_L0_u]
                            · try simp only [a29] at a25
                              simp (maxSteps := 4000000) [a24, a25, a26, a27, a28, a29, a30, f1, f7, f10, f13, f23, e_a4_i64, e_a5_i64, e_bool, e_i64, e_sl_api_Row, e_sl_api_Run, e_sl_i64, e_additiveref34_seen, e_api_Cell, e_api_Region, e_api_Row, e_api_Run, e_comb_state, ↓c10_L0_u]
                    · simp [a24, a25, a26] at c16
                  · simp [a24, a25] at c16
                · simp [a24] at c4
              · rw [if_neg c22] at h
                rw [Bool.not_eq_true] at c22
                cases h50 : loopT (t_additivelaw34_CombEasier_L0 p0 p1 p2 v9.1 v12.1 v15.1) bigN 0 with
                | none => (rw [h50] at h; cases h)
                | some v51 =>
                  simp only [h50] at h
                  have f52 := t_additivelaw34_CombEasier_L0_ok h50
                  cases v51 with
                  | inl v51x =>
                    try simp only at h
                    simp only [t_additivelaw34_CombEasier_L0_st, t_additivelaw34_CombEasier_L0_out, fset_len] at f52
                    try simp only [fcase_nil, fcase_lst, fcase_fsnoc, fcase_fapp, fcase_fset, fcase_frep, fcase_flit, fcase_flst] at f52
                    cases h
                    refine FC_pure (lf := lf10) rfl rfl rfl ?_
                    simp only [lf10, lc10, c10_0, c10_1, c10_2, c10_3, c10_4, c10_5, c10_6, c10_7, c10_8, c10_9, c10_10, c10_11, c10_12, c10_13, c10_14, c10_16]
                    rcases tof v3 with a53 | a53
                    · rcases tof (beqB v9.2 v12.2) with a54 | a54
                      · rcases tof (beqB v15.2 v12.2) with a55 | a55
                        · rcases tof (ine (flen v9.1) (flen v12.1)) with a56 | a56
                          · simp [a53, a54, a55, a56] at c16
                          · rcases tof (ine (flen v15.1) (flen v12.1)) with a57 | a57
                            · simp [a53, a54, a55, a56, a57] at c16
                            · rcases tof v9.2 with a58 | a58
                              · try simp only [a58] at a54
                                try simp only [a53, a54, a55, a56, a57, a58] at f52
                                simp (maxSteps := 4000000) [a53, a54, a55, a56, a57, a58, f1, f7, f10, f13, f52, e_a4_i64, e_a5_i64, e_bool, e_i64, e_sl_api_Row, e_sl_api_Run, e_sl_i64, e_additiveref34_seen, e_api_Cell, e_api_Region, e_api_Row, e_api_Run, e_comb_state, ↓c10_L0_u]
                              · simp [a53, a54, a55, a56, a57, a58] at c22
                        · simp [a53, a54, a55] at c16
                      · simp [a53, a54] at c16
                    · simp [a53] at c4
                  | inr v51x =>
                    try simp only at h
                    simp only [t_additivelaw34_CombEasier_L0_st, t_additivelaw34_CombEasier_L0_out, fset_len] at f52
                    try simp only [fcase_nil, fcase_lst, fcase_fsnoc, fcase_fapp, fcase_fset, fcase_frep, fcase_flit, fcase_flst] at f52
                    cases h60 : gOpt (igt (flen v9.1) 0) (fget v9.1 0) with
                    | none => (rw [h60] at h; cases h)
                    | some v61 =>
                      simp only [h60] at h
                      have f59 := fun (q0 : (igt (flen v9.1) 0) = true) => iaddr_F (e := e_api_Cell) (gOpt_getD (⟨0, 0⟩ : api_Cell) h60 q0)
                      cases h63 : gOpt (band (igt (flen v9.1) 0) (band (ieq (((v61.getD (⟨0, 0⟩ : api_Cell))).X) p1.X) (band (ieq (((v61.getD (⟨0, 0⟩ : api_Cell))).Y) p1.Y) true))) (fget v9.1 (isub .i64 (flen v9.1) 1)) with
                      | none => (rw [h63] at h; cases h)
                      | some v64 =>
                        simp only [h63] at h
                        have f62 := fun (q0 : (band (igt (flen v9.1) 0) (band (ieq (((v61.getD (⟨0, 0⟩ : api_Cell))).X) p1.X) (band (ieq (((v61.getD (⟨0, 0⟩ : api_Cell))).Y) p1.Y) true))) = true) => iaddr_F (e := e_api_Cell) (gOpt_getD (⟨0, 0⟩ : api_Cell) h63 q0)
                        cases h66 : gOpt (band (band (igt (flen v9.1) 0) (band (ieq (((v61.getD (⟨0, 0⟩ : api_Cell))).X) p1.X) (band (ieq (((v61.getD (⟨0, 0⟩ : api_Cell))).Y) p1.Y) true))) (band (ieq (((v64.getD (⟨0, 0⟩ : api_Cell))).X) p2.X) (band (ieq (((v64.getD (⟨0, 0⟩ : api_Cell))).Y) p2.Y) true))) (t_comb_Turns v9.1) with
                        | none => (rw [h66] at h; cases h)
                        | some v67 =>
                          simp only [h66] at h
                          have f65 := fun (q0 : (band (band (igt (flen v9.1) 0) (band (ieq (((v61.getD (⟨0, 0⟩ : api_Cell))).X) p1.X) (band (ieq (((v61.getD (⟨0, 0⟩ : api_Cell))).Y) p1.Y) true))) (band (ieq (((v64.getD (⟨0, 0⟩ : api_Cell))).X) p2.X) (band (ieq (((v64.getD (⟨0, 0⟩ : api_Cell))).Y) p2.Y) true))) = true) => t_comb_Turns_ok (gOpt_getD 0 h66 q0)
                          cases h69 : gOpt (band (band (igt (flen v9.1) 0) (band (ieq (((v61.getD (⟨0, 0⟩ : api_Cell))).X) p1.X) (band (ieq (((v61.getD (⟨0, 0⟩ : api_Cell))).Y) p1.Y) true))) (band (ieq (((v64.getD (⟨0, 0⟩ : api_Cell))).X) p2.X) (band (ieq (((v64.getD (⟨0, 0⟩ : api_Cell))).Y) p2.Y) true))) (t_comb_Turns v12.1) with
                          | none => (rw [h69] at h; cases h)
                          | some v70 =>
                            simp only [h69] at h
                            have f68 := fun (q0 : (band (band (igt (flen v9.1) 0) (band (ieq (((v61.getD (⟨0, 0⟩ : api_Cell))).X) p1.X) (band (ieq (((v61.getD (⟨0, 0⟩ : api_Cell))).Y) p1.Y) true))) (band (ieq (((v64.getD (⟨0, 0⟩ : api_Cell))).X) p2.X) (band (ieq (((v64.getD (⟨0, 0⟩ : api_Cell))).Y) p2.Y) true))) = true) => t_comb_Turns_ok (gOpt_getD 0 h69 q0)
                            cases h72 : gOpt (band (band (band (igt (flen v9.1) 0) (band (ieq (((v61.getD (⟨0, 0⟩ : api_Cell))).X) p1.X) (band (ieq (((v61.getD (⟨0, 0⟩ : api_Cell))).Y) p1.Y) true))) (band (ieq (((v64.getD (⟨0, 0⟩ : api_Cell))).X) p2.X) (band (ieq (((v64.getD (⟨0, 0⟩ : api_Cell))).Y) p2.Y) true))) (ile (v67.getD 0) (v70.getD 0))) (t_comb_Turns v9.1) with
                            | none => (rw [h72] at h; cases h)
                            | some v73 =>
                              simp only [h72] at h
                              have f71 := fun (q0 : (band (band (band (igt (flen v9.1) 0) (band (ieq (((v61.getD (⟨0, 0⟩ : api_Cell))).X) p1.X) (band (ieq (((v61.getD (⟨0, 0⟩ : api_Cell))).Y) p1.Y) true))) (band (ieq (((v64.getD (⟨0, 0⟩ : api_Cell))).X) p2.X) (band (ieq (((v64.getD (⟨0, 0⟩ : api_Cell))).Y) p2.Y) true))) (ile (v67.getD 0) (v70.getD 0))) = true) => t_comb_Turns_ok (gOpt_getD 0 h72 q0)
                              have f74 := fun (q0 : (band (band (igt (flen v9.1) 0) (band (ieq (((v61.getD (⟨0, 0⟩ : api_Cell))).X) p1.X) (band (ieq (((v61.getD (⟨0, 0⟩ : api_Cell))).Y) p1.Y) true))) (band (ieq (((v64.getD (⟨0, 0⟩ : api_Cell))).X) p2.X) (band (ieq (((v64.getD (⟨0, 0⟩ : api_Cell))).Y) p2.Y) true))) = true) (r0 : (band (band (band (igt (flen v9.1) 0) (band (ieq (((v61.getD (⟨0, 0⟩ : api_Cell))).X) p1.X) (band (ieq (((v61.getD (⟨0, 0⟩ : api_Cell))).Y) p1.Y) true))) (band (ieq (((v64.getD (⟨0, 0⟩ : api_Cell))).X) p2.X) (band (ieq (((v64.getD (⟨0, 0⟩ : api_Cell))).Y) p2.Y) true))) (ile (v67.getD 0) (v70.getD 0))) = true) => gOpt_eqD 0 h66 q0 (gOpt_getD 0 h72 r0)
                              cases h76 : gOpt (band (band (band (igt (flen v9.1) 0) (band (ieq (((v61.getD (⟨0, 0⟩ : api_Cell))).X) p1.X) (band (ieq (((v61.getD (⟨0, 0⟩ : api_Cell))).Y) p1.Y) true))) (band (ieq (((v64.getD (⟨0, 0⟩ : api_Cell))).X) p2.X) (band (ieq (((v64.getD (⟨0, 0⟩ : api_Cell))).Y) p2.Y) true))) (ile (v67.getD 0) (v70.getD 0))) (t_comb_Turns v15.1) with
                              | none => (rw [h76] at h; cases h)
                              | some v77 =>
                                simp only [h76] at h
                                have f75 := fun (q0 : (band (band (band (igt (flen v9.1) 0) (band (ieq (((v61.getD (⟨0, 0⟩ : api_Cell))).X) p1.X) (band (ieq (((v61.getD (⟨0, 0⟩ : api_Cell))).Y) p1.Y) true))) (band (ieq (((v64.getD (⟨0, 0⟩ : api_Cell))).X) p2.X) (band (ieq (((v64.getD (⟨0, 0⟩ : api_Cell))).Y) p2.Y) true))) (ile (v67.getD 0) (v70.getD 0))) = true) => t_comb_Turns_ok (gOpt_getD 0 h76 q0)
                                have f78 := u_additivelaw34_eased_ok 
                                cases h
                                refine FC_pure (lf := lf10) rfl rfl rfl ?_
                                simp only [lf10, lc10, c10_0, c10_1, c10_2, c10_3, c10_4, c10_5, c10_6, c10_7, c10_8, c10_9, c10_10, c10_11, c10_12, c10_13, c10_14, c10_16]
                                rcases tof v3 with a79 | a79
                                · rcases tof (beqB v9.2 v12.2) with a80 | a80
                                  · rcases tof (beqB v15.2 v12.2) with a81 | a81
                                    · rcases tof (ine (flen v9.1) (flen v12.1)) with a82 | a82
                                      · simp [a79, a80, a81, a82] at c16
                                      · rcases tof (ine (flen v15.1) (flen v12.1)) with a83 | a83
                                        · simp [a79, a80, a81, a82, a83] at c16
                                        · rcases tof v9.2 with a84 | a84
                                          · rcases tof (igt (flen v9.1) 0) with a85 | a85
                                            · rcases tof (ieq (((v61.getD (⟨0, 0⟩ : api_Cell))).X) p1.X) with a86 | a86
                                              · rcases tof (ieq (((v61.getD (⟨0, 0⟩ : api_Cell))).Y) p1.Y) with a87 | a87
                                                · rcases tof (ieq (((v64.getD (⟨0, 0⟩ : api_Cell))).X) p2.X) with a88 | a88
                                                  · rcases tof (ieq (((v64.getD (⟨0, 0⟩ : api_Cell))).Y) p2.Y) with a89 | a89
                                                    · rcases tof (ile (v67.getD 0) (v70.getD 0)) with a90 | a90
                                                      · rcases tof (ieq (v73.getD 0) (v77.getD 0)) with a91 | a91
                                                        · try simp only [a84] at a80
                                                          have gf74 := f74 (by simp [a79, a80, a81, a82, a83, a84, a85, a86, a87, a88, a89, a90, a91]) (by simp [a79, a80, a81, a82, a83, a84, a85, a86, a87, a88, a89, a90, a91])
                                                          try simp only [gf74] at f1 f7 f10 f13 f52 f59 f62 f65 f68 f71 f75 f78 a79 a80 a81 a82 a83 a84 a85 a86 a87 a88 a89 a90 a91
                                                          try simp only [a79, a80, a81, a82, a83, a84, a85, a86, a87, a88, a89, a90, a91, gf74] at f52
                                                          simp (maxSteps := 4000000) [a79, a80, a81, a82, a83, a84, a85, a86, a87, a88, a89, a90, a91, gf74, f1, f7, f10, f13, f52, f59, f62, f65, f68, f71, f75, f78, e_a4_i64, e_a5_i64, e_bool, e_i64, e_sl_api_Row, e_sl_api_Run, e_sl_i64, e_additiveref34_seen, e_api_Cell, e_api_Region, e_api_Row, e_api_Run, e_comb_state, ↓c10_L0_u]
                                                        · try simp only [a84] at a80
                                                          have gf74 := f74 (by simp [a79, a80, a81, a82, a83, a84, a85, a86, a87, a88, a89, a90, a91]) (by simp [a79, a80, a81, a82, a83, a84, a85, a86, a87, a88, a89, a90, a91])
                                                          try simp only [gf74] at f1 f7 f10 f13 f52 f59 f62 f65 f68 f71 f75 f78 a79 a80 a81 a82 a83 a84 a85 a86 a87 a88 a89 a90 a91
                                                          try simp only [a79, a80, a81, a82, a83, a84, a85, a86, a87, a88, a89, a90, a91, gf74] at f52
                                                          simp (maxSteps := 4000000) [a79, a80, a81, a82, a83, a84, a85, a86, a87, a88, a89, a90, a91, gf74, f1, f7, f10, f13, f52, f59, f62, f65, f68, f71, f75, f78, e_a4_i64, e_a5_i64, e_bool, e_i64, e_sl_api_Row, e_sl_api_Run, e_sl_i64, e_additiveref34_seen, e_api_Cell, e_api_Region, e_api_Row, e_api_Run, e_comb_state, ↓c10_L0_u]
                                                      · try simp only [a84] at a80
                                                        try simp only [a79, a80, a81, a82, a83, a84, a85, a86, a87, a88, a89, a90] at f52
                                                        simp (maxSteps := 4000000) [a79, a80, a81, a82, a83, a84, a85, a86, a87, a88, a89, a90, f1, f7, f10, f13, f52, f59, f62, f65, f68, f71, f75, f78, e_a4_i64, e_a5_i64, e_bool, e_i64, e_sl_api_Row, e_sl_api_Run, e_sl_i64, e_additiveref34_seen, e_api_Cell, e_api_Region, e_api_Row, e_api_Run, e_comb_state, ↓c10_L0_u]
                                                    · try simp only [a84] at a80
                                                      try simp only [a79, a80, a81, a82, a83, a84, a85, a86, a87, a88, a89] at f52
                                                      simp (maxSteps := 4000000) [a79, a80, a81, a82, a83, a84, a85, a86, a87, a88, a89, f1, f7, f10, f13, f52, f59, f62, f65, f68, f71, f75, f78, e_a4_i64, e_a5_i64, e_bool, e_i64, e_sl_api_Row, e_sl_api_Run, e_sl_i64, e_additiveref34_seen, e_api_Cell, e_api_Region, e_api_Row, e_api_Run, e_comb_state, ↓c10_L0_u]
                                                  · try simp only [a84] at a80
                                                    try simp only [a79, a80, a81, a82, a83, a84, a85, a86, a87, a88] at f52
                                                    simp (maxSteps := 4000000) [a79, a80, a81, a82, a83, a84, a85, a86, a87, a88, f1, f7, f10, f13, f52, f59, f62, f65, f68, f71, f75, f78, e_a4_i64, e_a5_i64, e_bool, e_i64, e_sl_api_Row, e_sl_api_Run, e_sl_i64, e_additiveref34_seen, e_api_Cell, e_api_Region, e_api_Row, e_api_Run, e_comb_state, ↓c10_L0_u]
                                                · try simp only [a84] at a80
                                                  try simp only [a79, a80, a81, a82, a83, a84, a85, a86, a87] at f52
                                                  simp (maxSteps := 4000000) [a79, a80, a81, a82, a83, a84, a85, a86, a87, f1, f7, f10, f13, f52, f59, f62, f65, f68, f71, f75, f78, e_a4_i64, e_a5_i64, e_bool, e_i64, e_sl_api_Row, e_sl_api_Run, e_sl_i64, e_additiveref34_seen, e_api_Cell, e_api_Region, e_api_Row, e_api_Run, e_comb_state, ↓c10_L0_u]
                                              · try simp only [a84] at a80
                                                try simp only [a79, a80, a81, a82, a83, a84, a85, a86] at f52
                                                simp (maxSteps := 4000000) [a79, a80, a81, a82, a83, a84, a85, a86, f1, f7, f10, f13, f52, f59, f62, f65, f68, f71, f75, f78, e_a4_i64, e_a5_i64, e_bool, e_i64, e_sl_api_Row, e_sl_api_Run, e_sl_i64, e_additiveref34_seen, e_api_Cell, e_api_Region, e_api_Row, e_api_Run, e_comb_state, ↓c10_L0_u]
                                            · try simp only [a84] at a80
                                              try simp only [a79, a80, a81, a82, a83, a84, a85] at f52
                                              simp (maxSteps := 4000000) [a79, a80, a81, a82, a83, a84, a85, f1, f7, f10, f13, f52, f59, f62, f65, f68, f71, f75, f78, e_a4_i64, e_a5_i64, e_bool, e_i64, e_sl_api_Row, e_sl_api_Run, e_sl_i64, e_additiveref34_seen, e_api_Cell, e_api_Region, e_api_Row, e_api_Run, e_comb_state, ↓c10_L0_u]
                                          · simp [a79, a80, a81, a82, a83, a84] at c22
                                    · simp [a79, a80, a81] at c16
                                  · simp [a79, a80] at c16
                                · simp [a79] at c4
end Go.Proofs.Ytchiiiahgmfofaa
