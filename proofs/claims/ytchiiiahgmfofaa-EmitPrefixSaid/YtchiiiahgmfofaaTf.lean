/- Typed functions of this seat, each with the proof that the code computes it; by program (tg3.py). -/
import Derived.Test.YtchiiiahgmfofaaCode
import Derived.Test.YtchiiiahgmfofaaVu
import Derived.KernelRfl
import Derived.Test.YtchiiiahgmfofaaTe
namespace Go.Proofs.Ytchiiiahgmfofaa
open Go Go.Vv Go.Proofs
set_option linter.unusedSimpArgs false
set_option linter.unusedVariables false
set_option maxRecDepth 100000
set_option maxHeartbeats 4000000

/-! additiveref40.SameCmds -/
attribute [simp] c38_0 c38_1 c38_2 c38_3 c38_4 c38_5 c38_6 c38_7 c38_9
theorem c38_L0_u (Γ : Env) (ps : List Nat) (σ : St) : EC Γ ps 0 c38_L0 σ = EC Γ ps 0 (.seq (.seq (.reg false c38_4) (.cond (.t 14) .skip (.seq (.trim []) (.exit 0)))) (.seq (.blk 1 (.seq (.reg true c38_5) (.cond (.t 25) (.seq (.reg false c38_6) (.seq (.trim [4]) .ret)) .skip))) (.reg false c38_7))) σ := rfl
attribute [simp ↓] c38_L0_u
def t_additiveref40_SameCmds_L0 (k0 : (FS api_Cmd)) (k1 : (FS api_Cmd)) (s : Int) : Option (LR Int (Bool ⊕ Unit)) := match s with
 | s0 => (if (ilt s0 (flen k0)) = true then (match fget k0 s0 with
 | none => none
 | some v5 => (match fget k1 s0 with
 | none => none
 | some v8 => (if (bnot (band (ieq v5.Code v8.Code) (band (ieq v5.Has v8.Has) (band (ieq v5.X v8.X) (band (ieq v5.Y v8.Y) (band (ieq v5.Z v8.Z) (band (ieq v5.E v8.E) (band (ieq v5.F v8.F) (band (ieq v5.S v8.S) true))))))))) = true then some (.dn (.inl false))
 else some (.nx (iadd .i64 s0 1)))))
 else some (.dn (.inr ())))
def t_additiveref40_SameCmds_L0_st (k0 : (FS api_Cmd)) (k1 : (FS api_Cmd)) (s : Int) : St := match s with
 | s0 => ⟨fr [(0, encF e_api_Cmd k0), (1, encF e_api_Cmd k1), (5, .int .i64 s0)], hl []⟩
def t_additiveref40_SameCmds_L0_out (k0 : (FS api_Cmd)) (k1 : (FS api_Cmd)) (x : (Bool ⊕ Unit)) : LE × St := match x with
 | .inl x => (.ret, ⟨fr [(4, .bool x)], hl []⟩)
 | .inr x => (.exit 0, ⟨fr [], hl []⟩)
theorem t_additiveref40_SameCmds_L0_ok {k0 : (FS api_Cmd)} {k1 : (FS api_Cmd)} {s : Int} {r : (Bool ⊕ Unit)} (h : loopT (t_additiveref40_SameCmds_L0 k0 k1) bigN s = some r) : LK env [] 0 [0, 1, 5] c38_L0 (some (t_additiveref40_SameCmds_L0_st k0 k1 s)) = some (t_additiveref40_SameCmds_L0_out k0 k1 r) := loop_walk (st := t_additiveref40_SameCmds_L0_st k0 k1) (out := t_additiveref40_SameCmds_L0_out k0 k1) (by
 clear h s r
 rintro s0 x h
 simp only [t_additiveref40_SameCmds_L0] at h
 by_cases c2 : (ilt s0 (flen k0)) = true
 · rw [if_pos c2] at h
   cases h4 : fget k0 s0 with
   | none => (rw [h4] at h; cases h)
   | some v5 =>
    simp only [h4] at h
    have f3 := iaddr_F (e := e_api_Cmd) h4
    cases h7 : fget k1 s0 with
    | none => (rw [h7] at h; cases h)
    | some v8 =>
     simp only [h7] at h
     have f6 := iaddr_F (e := e_api_Cmd) h7
     by_cases c9 : (bnot (band (ieq v5.Code v8.Code) (band (ieq v5.Has v8.Has) (band (ieq v5.X v8.X) (band (ieq v5.Y v8.Y) (band (ieq v5.Z v8.Z) (band (ieq v5.E v8.E) (band (ieq v5.F v8.F) (band (ieq v5.S v8.S) true))))))))) = true
     · rw [if_pos c9] at h
       cases h
       show LK env [] 0 [0, 1, 5] c38_L0 (some (t_additiveref40_SameCmds_L0_st _ _ _)) = some (t_additiveref40_SameCmds_L0_out _ _ _)
       simp only [t_additiveref40_SameCmds_L0_st, t_additiveref40_SameCmds_L0_out]
       rw [LK_step]
       rcases tof (ieq v5.Code v8.Code) with a10 | a10
       · rcases tof (ieq v5.Has v8.Has) with a11 | a11
         · rcases tof (ieq v5.X v8.X) with a12 | a12
           · rcases tof (ieq v5.Y v8.Y) with a13 | a13
             · rcases tof (ieq v5.Z v8.Z) with a14 | a14
               · rcases tof (ieq v5.E v8.E) with a15 | a15
                 · rcases tof (ieq v5.F v8.F) with a16 | a16
                   · rcases tof (ieq v5.S v8.S) with a17 | a17
                     · simp [c2, a10, a11, a12, a13, a14, a15, a16, a17] at c9
                     · simp (maxSteps := 4000000) [c2, a10, a11, a12, a13, a14, a15, a16, a17, f3, f6]
                   · simp (maxSteps := 4000000) [c2, a10, a11, a12, a13, a14, a15, a16, f3, f6]
                 · simp (maxSteps := 4000000) [c2, a10, a11, a12, a13, a14, a15, f3, f6]
               · simp (maxSteps := 4000000) [c2, a10, a11, a12, a13, a14, f3, f6]
             · simp (maxSteps := 4000000) [c2, a10, a11, a12, a13, f3, f6]
           · simp (maxSteps := 4000000) [c2, a10, a11, a12, f3, f6]
         · simp (maxSteps := 4000000) [c2, a10, a11, f3, f6]
       · simp (maxSteps := 4000000) [c2, a10, f3, f6]
     · rw [if_neg c9] at h
       rw [Bool.not_eq_true] at c9
       cases h
       show LK env [] 0 [0, 1, 5] c38_L0 (some (t_additiveref40_SameCmds_L0_st _ _ _)) = LK env [] 0 [0, 1, 5] c38_L0 (some (t_additiveref40_SameCmds_L0_st _ _ _))
       simp only [t_additiveref40_SameCmds_L0_st]
       rw [LK_step]
       rcases tof (ieq v5.Code v8.Code) with a18 | a18
       · rcases tof (ieq v5.Has v8.Has) with a19 | a19
         · rcases tof (ieq v5.X v8.X) with a20 | a20
           · rcases tof (ieq v5.Y v8.Y) with a21 | a21
             · rcases tof (ieq v5.Z v8.Z) with a22 | a22
               · rcases tof (ieq v5.E v8.E) with a23 | a23
                 · rcases tof (ieq v5.F v8.F) with a24 | a24
                   · rcases tof (ieq v5.S v8.S) with a25 | a25
                     · simp (maxSteps := 4000000) [c2, a18, a19, a20, a21, a22, a23, a24, a25, f3, f6]
                     · simp [c2, a18, a19, a20, a21, a22, a23, a24, a25] at c9
                   · simp [c2, a18, a19, a20, a21, a22, a23, a24] at c9
                 · simp [c2, a18, a19, a20, a21, a22, a23] at c9
               · simp [c2, a18, a19, a20, a21, a22] at c9
             · simp [c2, a18, a19, a20, a21] at c9
           · simp [c2, a18, a19, a20] at c9
         · simp [c2, a18, a19] at c9
       · simp [c2, a18] at c9
 · rw [if_neg c2] at h
   rw [Bool.not_eq_true] at c2
   cases h
   show LK env [] 0 [0, 1, 5] c38_L0 (some (t_additiveref40_SameCmds_L0_st _ _ _)) = some (t_additiveref40_SameCmds_L0_out _ _ _)
   simp only [t_additiveref40_SameCmds_L0_st, t_additiveref40_SameCmds_L0_out]
   rw [LK_step]
   simp (maxSteps := 4000000) [c2]) bigN s r h
def t_additiveref40_SameCmds (p0 : (FS api_Cmd)) (p1 : (FS api_Cmd)) : Option Bool := (if (ine (flen p0) (flen p1)) = true then some false
 else (match loopT (t_additiveref40_SameCmds_L0 p0 p1) bigN 0 with
 | none => none
 | some v11 => (match v11 with
 | .inl v11x => some v11x
 | .inr v11x => some true)))
theorem t_additiveref40_SameCmds_ok {p0 : (FS api_Cmd)} {p1 : (FS api_Cmd)} {r : Bool} (h : t_additiveref40_SameCmds p0 p1 = some r) : FC env 38 [encF e_api_Cmd p0, encF e_api_Cmd p1] none = some (.bool r, fun _ => none) := by
 unfold t_additiveref40_SameCmds at h
 by_cases c1 : (ine (flen p0) (flen p1)) = true
 · rw [if_pos c1] at h
   cases h
   refine FC_pure (lf := lf38) rfl rfl rfl ?_
   simp only [lf38, lc38]
   simp (maxSteps := 4000000) [c1]
 · rw [if_neg c1] at h
   rw [Bool.not_eq_true] at c1
   cases h26 : loopT (t_additiveref40_SameCmds_L0 p0 p1) bigN 0 with
   | none => (rw [h26] at h; cases h)
   | some v27 =>
    simp only [h26] at h
    have f28 := t_additiveref40_SameCmds_L0_ok h26
    cases v27 with
    | inl v27x =>
     try simp only at h
     simp only [t_additiveref40_SameCmds_L0_st, t_additiveref40_SameCmds_L0_out, fset_len] at f28
     try simp only [fcase_nil, fcase_lst, fcase_fsnoc, fcase_fapp, fcase_fset, fcase_frep, fcase_flit, fcase_flst] at f28
     cases h
     refine FC_pure (lf := lf38) rfl rfl rfl ?_
     simp only [lf38, lc38]
     try simp only [c1] at f28
     simp (maxSteps := 4000000) [c1, f28]
    | inr v27x =>
     try simp only at h
     simp only [t_additiveref40_SameCmds_L0_st, t_additiveref40_SameCmds_L0_out, fset_len] at f28
     try simp only [fcase_nil, fcase_lst, fcase_fsnoc, fcase_fapp, fcase_fset, fcase_frep, fcase_flit, fcase_flst] at f28
     cases h
     refine FC_pure (lf := lf38) rfl rfl rfl ?_
     simp only [lf38, lc38]
     try simp only [c1] at f28
     simp (maxSteps := 4000000) [c1, f28]

/-! additivelaw40.EmitPrefix -/
attribute [simp] c14_0 c14_1 c14_2 c14_3 c14_4 c14_5 c14_6
def t_additivelaw40_EmitPrefix (p0 : (FS api_Op)) (p1 : api_Settings) (p2 : Int) : Option Bool := (match t_additivelaw40_few p0 with
 | none => none
 | some v3 => (match t_emit_Commands v3 p1 with
 | none => none
 | some v6 => (if (bor (bor (ine v6.2 0) (ilt p2 0)) (igt p2 (flen v3))) = true then some u_additivelaw40_awake
 else (match fsl v3 0 p2 with
 | none => none
 | some v11 => (match t_emit_Commands v11 p1 with
 | none => none
 | some v14 => (match gOpt (band (ieq v14.2 0) (ile (flen v14.1) (flen v6.1))) (fsl v6.1 0 (flen v14.1)) with
 | none => none
 | some v17 => (match gOpt (band (ieq v14.2 0) (ile (flen v14.1) (flen v6.1))) (t_additiveref40_SameCmds v14.1 (v17.getD (FS.nil : (FS api_Cmd)))) with
 | none => none
 | some v20 => some (band (band (band (ieq v14.2 0) (ile (flen v14.1) (flen v6.1))) (v20.getD false)) u_additivelaw40_awake))))))))
theorem t_additivelaw40_EmitPrefix_ok {p0 : (FS api_Op)} {p1 : api_Settings} {p2 : Int} {r : Bool} (h : t_additivelaw40_EmitPrefix p0 p1 p2 = some r) : FC env 14 [encF e_api_Op p0, .agg [.int .i64 p1.Pitch, .int .i64 p1.Height, .int .i64 p1.Walls, .int .i64 p1.Top, .int .i64 p1.Bottom, .int .i64 p1.Pattern, .int .i64 p1.Spacing, .bool p1.Support, .int .i64 p1.Reach, .int .i64 p1.Gap, .int .i64 p1.Brim, .int .i64 p1.Skirt, .int .i64 p1.Drop, .int .i64 p1.Feed, .int .i64 p1.Travel, .int .i64 p1.Retract, .int .i64 p1.MinTime, .int .i64 p1.MinFeed, .int .i64 p1.Nozzle, .int .i64 p1.Bed], .int .i64 p2] none = some (.bool r, fun _ => none) := by
 unfold t_additivelaw40_EmitPrefix at h
 cases h2 : t_additivelaw40_few p0 with
 | none => (rw [h2] at h; cases h)
 | some v3 =>
  simp only [h2] at h
  have f1 := t_additivelaw40_few_ok h2
  cases h5 : t_emit_Commands v3 p1 with
  | none => (rw [h5] at h; cases h)
  | some v6 =>
   simp only [h5] at h
   have f4 := t_emit_Commands_ok h5
   by_cases c7 : (bor (bor (ine v6.2 0) (ilt p2 0)) (igt p2 (flen v3))) = true
   · rw [if_pos c7] at h
     have f8 := u_additivelaw40_awake_ok 
     cases h
     refine FC_pure (lf := lf14) rfl rfl rfl ?_
     simp only [lf14, lc14]
     rcases tof (ine v6.2 0) with a9 | a9
     · simp (maxSteps := 4000000) [a9, f1, f4, f8]
     · rcases tof (ilt p2 0) with a10 | a10
       · simp (maxSteps := 4000000) [a9, a10, f1, f4, f8]
       · rcases tof (igt p2 (flen v3)) with a11 | a11
         · simp (maxSteps := 4000000) [a9, a10, a11, f1, f4, f8]
         · simp [a9, a10, a11] at c7
   · rw [if_neg c7] at h
     rw [Bool.not_eq_true] at c7
     cases h13 : fsl v3 0 p2 with
     | none => (rw [h13] at h; cases h)
     | some v14 =>
      simp only [h13] at h
      have f12 := slice_Fhi (e := e_api_Op) h13
      cases h16 : t_emit_Commands v14 p1 with
      | none => (rw [h16] at h; cases h)
      | some v17 =>
       simp only [h16] at h
       have f15 := t_emit_Commands_ok h16
       cases h19 : gOpt (band (ieq v17.2 0) (ile (flen v17.1) (flen v6.1))) (fsl v6.1 0 (flen v17.1)) with
       | none => (rw [h19] at h; cases h)
       | some v20 =>
        simp only [h19] at h
        have f18 := fun (q0 : (band (ieq v17.2 0) (ile (flen v17.1) (flen v6.1))) = true) => slice_Fhi (e := e_api_Cmd) (gOpt_getD (FS.nil : (FS api_Cmd)) h19 q0)
        cases h22 : gOpt (band (ieq v17.2 0) (ile (flen v17.1) (flen v6.1))) (t_additiveref40_SameCmds v17.1 (v20.getD (FS.nil : (FS api_Cmd)))) with
        | none => (rw [h22] at h; cases h)
        | some v23 =>
         simp only [h22] at h
         have f21 := fun (q0 : (band (ieq v17.2 0) (ile (flen v17.1) (flen v6.1))) = true) => t_additiveref40_SameCmds_ok (gOpt_getD false h22 q0)
         have f24 := u_additivelaw40_awake_ok 
         cases h
         refine FC_pure (lf := lf14) rfl rfl rfl ?_
         simp only [lf14, lc14]
         rcases tof (ine v6.2 0) with a25 | a25
         · simp [a25] at c7
         · rcases tof (ilt p2 0) with a26 | a26
           · simp [a25, a26] at c7
           · rcases tof (igt p2 (flen v3)) with a27 | a27
             · simp [a25, a26, a27] at c7
             · rcases tof (ieq v17.2 0) with a28 | a28
               · rcases tof (ile (flen v17.1) (flen v6.1)) with a29 | a29
                 · rcases tof (v23.getD false) with a30 | a30
                   · simp (maxSteps := 4000000) [a25, a26, a27, a28, a29, a30, f1, f4, f12, f15, f18, f21, f24]
                   · simp (maxSteps := 4000000) [a25, a26, a27, a28, a29, a30, f1, f4, f12, f15, f18, f21, f24]
                 · simp (maxSteps := 4000000) [a25, a26, a27, a28, a29, f1, f4, f12, f15, f18, f21, f24]
               · simp (maxSteps := 4000000) [a25, a26, a27, a28, f1, f4, f12, f15, f18, f21, f24]
end Go.Proofs.Ytchiiiahgmfofaa
