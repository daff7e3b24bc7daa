/- Typed functions of this seat, each with the proof that the code computes it; by program (tg3.py). -/
import Derived.Test.YtchiiiahgmfofaaCode
import Derived.Test.YtchiiiahgmfofaaVu
import Derived.KernelRfl
import Derived.Test.YtchiiiahgmfofaaTe
namespace Go.Proofs.Ytchiiiahgmfofaa
open Go Go.Vv Go.Proofs
set_option linter.unusedSimpArgs false
set_option linter.unusedVariables false
set_option maxRecDepth 100000
set_option maxHeartbeats 4000000

/-! additiveref39.known -/
attribute [simp] c76_0 c76_1 c76_2 c76_3 c76_4 c76_5 c76_6 c76_8
theorem c76_L0_u (Γ : Env) (ps : List Nat) (σ : St) : EC Γ ps 0 c76_L0 σ = EC Γ ps 0 (.seq (.seq (.reg false c76_3) (.cond (.t 9) .skip (.seq (.trim []) (.exit 0)))) (.seq (.blk 1 (.seq (.reg false c76_4) (.cond (.t 17) (.seq (.reg false c76_5) (.seq (.trim [2]) .ret)) .skip))) (.reg false c76_6))) σ := rfl
attribute [simp ↓] c76_L0_u
def t_additiveref39_known_L0 (k0 : Int) (k1 : (FS Int)) (s : Int) : Option (LR Int (Bool ⊕ Unit)) := match s with
 | s0 => (if (ilt s0 (flen k1)) = true then (match fget k1 s0 with
 | none => none
 | some v5 => (if (ieq v5 k0) = true then some (.dn (.inl true))
 else some (.nx (iadd .i64 s0 1))))
 else some (.dn (.inr ())))
def t_additiveref39_known_L0_st (k0 : Int) (k1 : (FS Int)) (s : Int) : St := match s with
 | s0 => ⟨fr [(0, .int .i64 k0), (3, encF e_i64 k1), (4, .int .i64 s0)], hl []⟩
def t_additiveref39_known_L0_out (k0 : Int) (k1 : (FS Int)) (x : (Bool ⊕ Unit)) : LE × St := match x with
 | .inl x => (.ret, ⟨fr [(2, .bool x)], hl []⟩)
 | .inr x => (.exit 0, ⟨fr [], hl []⟩)
theorem t_additiveref39_known_L0_ok {k0 : Int} {k1 : (FS Int)} {s : Int} {r : (Bool ⊕ Unit)} (h : loopT (t_additiveref39_known_L0 k0 k1) bigN s = some r) : LK env [] 0 [0, 3, 4] c76_L0 (some (t_additiveref39_known_L0_st k0 k1 s)) = some (t_additiveref39_known_L0_out k0 k1 r) := loop_walk (st := t_additiveref39_known_L0_st k0 k1) (out := t_additiveref39_known_L0_out k0 k1) (by
 clear h s r
 rintro s0 x h
 simp only [t_additiveref39_known_L0] at h
 by_cases c2 : (ilt s0 (flen k1)) = true
 · rw [if_pos c2] at h
   cases h4 : fget k1 s0 with
   | none => (rw [h4] at h; cases h)
   | some v5 =>
    simp only [h4] at h
    have f3 := iaddr_F (e := e_i64) h4
    by_cases c6 : (ieq v5 k0) = true
    · rw [if_pos c6] at h
      cases h
      show LK env [] 0 [0, 3, 4] c76_L0 (some (t_additiveref39_known_L0_st _ _ _)) = some (t_additiveref39_known_L0_out _ _ _)
      simp only [t_additiveref39_known_L0_st, t_additiveref39_known_L0_out]
      rw [LK_step]
      simp (maxSteps := 4000000) [c2, c6, f3]
    · rw [if_neg c6] at h
      rw [Bool.not_eq_true] at c6
      cases h
      show LK env [] 0 [0, 3, 4] c76_L0 (some (t_additiveref39_known_L0_st _ _ _)) = LK env [] 0 [0, 3, 4] c76_L0 (some (t_additiveref39_known_L0_st _ _ _))
      simp only [t_additiveref39_known_L0_st]
      rw [LK_step]
      simp (maxSteps := 4000000) [c2, c6, f3]
 · rw [if_neg c2] at h
   rw [Bool.not_eq_true] at c2
   cases h
   show LK env [] 0 [0, 3, 4] c76_L0 (some (t_additiveref39_known_L0_st _ _ _)) = some (t_additiveref39_known_L0_out _ _ _)
   simp only [t_additiveref39_known_L0_st, t_additiveref39_known_L0_out]
   rw [LK_step]
   simp (maxSteps := 4000000) [c2]) bigN s r h
def t_additiveref39_known (p0 : Int) : Option Bool := (match loopT (t_additiveref39_known_L0 p0 u_additiveref39_Codes) bigN 0 with
 | none => none
 | some v8 => (match v8 with
 | .inl v8x => some v8x
 | .inr v8x => some false))
theorem t_additiveref39_known_ok {p0 : Int} {r : Bool} (h : t_additiveref39_known p0 = some r) : FC env 76 [.int .i64 p0] none = some (.bool r, fun _ => none) := by
 unfold t_additiveref39_known at h
 have f1 := u_additiveref39_Codes_ok 
 cases h7 : loopT (t_additiveref39_known_L0 p0 u_additiveref39_Codes) bigN 0 with
 | none => (rw [h7] at h; cases h)
 | some v8 =>
  simp only [h7] at h
  have f9 := t_additiveref39_known_L0_ok h7
  cases v8 with
  | inl v8x =>
   try simp only at h
   simp only [t_additiveref39_known_L0_st, t_additiveref39_known_L0_out, fset_len] at f9
   try simp only [fcase_nil, fcase_lst, fcase_fsnoc, fcase_fapp, fcase_fset, fcase_frep, fcase_flit, fcase_flst] at f9
   cases h
   refine FC_pure (lf := lf76) rfl rfl rfl ?_
   simp only [lf76, lc76]
   simp (maxSteps := 4000000) [f1, f9]
  | inr v8x =>
   try simp only at h
   simp only [t_additiveref39_known_L0_st, t_additiveref39_known_L0_out, fset_len] at f9
   try simp only [fcase_nil, fcase_lst, fcase_fsnoc, fcase_fapp, fcase_fset, fcase_frep, fcase_flit, fcase_flst] at f9
   cases h
   refine FC_pure (lf := lf76) rfl rfl rfl ?_
   simp only [lf76, lc76]
   simp (maxSteps := 4000000) [f1, f9]

/-! additiveref39.allowed -/
attribute [simp] c77_0 c77_1 c77_2 c77_3 c77_4 c77_5 c77_6 c77_7 c77_8 c77_9 c77_10 c77_11 c77_12 c77_13
def t_additiveref39_allowed (p0 : Int) : Option Int := (if (ieq p0 0) = true then some 23
 else (if (ieq p0 1) = true then some 31
 else (if (ieq p0 4) = true then some 32
 else (if (ieq p0 1104) = true then some 32
 else (if (ieq p0 1109) = true then some 32
 else (if (ieq p0 1140) = true then some 32
 else (if (ieq p0 1190) = true then some 32
 else (if (ieq p0 1106) = true then some 32
 else some 0))))))))
theorem t_additiveref39_allowed_ok {p0 : Int} {r : Int} (h : t_additiveref39_allowed p0 = some r) : FC env 77 [.int .i64 p0] none = some (.int .i64 r, fun _ => none) := by
 unfold t_additiveref39_allowed at h
 by_cases c1 : (ieq p0 0) = true
 · rw [if_pos c1] at h
   cases h
   refine FC_pure (lf := lf77) rfl rfl rfl ?_
   simp only [lf77, lc77]
   simp (maxSteps := 4000000) [c1]
 · rw [if_neg c1] at h
   rw [Bool.not_eq_true] at c1
   by_cases c2 : (ieq p0 1) = true
   · rw [if_pos c2] at h
     cases h
     refine FC_pure (lf := lf77) rfl rfl rfl ?_
     simp only [lf77, lc77]
     simp (maxSteps := 4000000) [c1, c2]
   · rw [if_neg c2] at h
     rw [Bool.not_eq_true] at c2
     by_cases c3 : (ieq p0 4) = true
     · rw [if_pos c3] at h
       cases h
       refine FC_pure (lf := lf77) rfl rfl rfl ?_
       simp only [lf77, lc77]
       simp (maxSteps := 4000000) [c1, c2, c3]
     · rw [if_neg c3] at h
       rw [Bool.not_eq_true] at c3
       by_cases c4 : (ieq p0 1104) = true
       · rw [if_pos c4] at h
         cases h
         refine FC_pure (lf := lf77) rfl rfl rfl ?_
         simp only [lf77, lc77]
         simp (maxSteps := 4000000) [c1, c2, c3, c4]
       · rw [if_neg c4] at h
         rw [Bool.not_eq_true] at c4
         by_cases c5 : (ieq p0 1109) = true
         · rw [if_pos c5] at h
           cases h
           refine FC_pure (lf := lf77) rfl rfl rfl ?_
           simp only [lf77, lc77]
           simp (maxSteps := 4000000) [c1, c2, c3, c4, c5]
         · rw [if_neg c5] at h
           rw [Bool.not_eq_true] at c5
           by_cases c6 : (ieq p0 1140) = true
           · rw [if_pos c6] at h
             cases h
             refine FC_pure (lf := lf77) rfl rfl rfl ?_
             simp only [lf77, lc77]
             simp (maxSteps := 4000000) [c1, c2, c3, c4, c5, c6]
           · rw [if_neg c6] at h
             rw [Bool.not_eq_true] at c6
             by_cases c7 : (ieq p0 1190) = true
             · rw [if_pos c7] at h
               cases h
               refine FC_pure (lf := lf77) rfl rfl rfl ?_
               simp only [lf77, lc77]
               simp (maxSteps := 4000000) [c1, c2, c3, c4, c5, c6, c7]
             · rw [if_neg c7] at h
               rw [Bool.not_eq_true] at c7
               by_cases c8 : (ieq p0 1106) = true
               · rw [if_pos c8] at h
                 cases h
                 refine FC_pure (lf := lf77) rfl rfl rfl ?_
                 simp only [lf77, lc77]
                 simp (maxSteps := 4000000) [c1, c2, c3, c4, c5, c6, c7, c8]
               · rw [if_neg c8] at h
                 rw [Bool.not_eq_true] at c8
                 cases h
                 refine FC_pure (lf := lf77) rfl rfl rfl ?_
                 simp only [lf77, lc77]
                 simp (maxSteps := 4000000) [c1, c2, c3, c4, c5, c6, c7, c8]

/-! additiveref39.complete -/
attribute [simp] c78_0 c78_1
def t_additiveref39_complete (p0 : Int) (p1 : Int) : Option Bool := (match t_additiveref39_allowed p0 with
 | none => none
 | some v3 => some (bor (ine v3 32) (ieq p1 32)))
theorem t_additiveref39_complete_ok {p0 : Int} {p1 : Int} {r : Bool} (h : t_additiveref39_complete p0 p1 = some r) : FC env 78 [.int .i64 p0, .int .i64 p1] none = some (.bool r, fun _ => none) := by
 unfold t_additiveref39_complete at h
 cases h2 : t_additiveref39_allowed p0 with
 | none => (rw [h2] at h; cases h)
 | some v3 =>
  simp only [h2] at h
  have f1 := t_additiveref39_allowed_ok h2
  cases h
  refine FC_pure (lf := lf78) rfl rfl rfl ?_
  simp only [lf78, lc78]
  rcases tof (ine v3 32) with a4 | a4
  · simp (maxSteps := 4000000) [a4, f1]
  · simp (maxSteps := 4000000) [a4, f1]

/-! additiveref39.fields -/
attribute [simp] c79_0 c79_1
def u_additiveref39_fields (p0 : api_Cmd) : (FS Int) := (flit ([p0.X, p0.Y, p0.Z, p0.E, p0.F, p0.S] : List Int))
def t_additiveref39_fields (p0 : api_Cmd) : Option (FS Int) := some (u_additiveref39_fields p0)
theorem u_additiveref39_fields_ok (p0 : api_Cmd) : FC env 79 [.agg [.int .i64 p0.Code, .int .i64 p0.Has, .int .i64 p0.X, .int .i64 p0.Y, .int .i64 p0.Z, .int .i64 p0.E, .int .i64 p0.F, .int .i64 p0.S]] none = some (encF e_i64 (u_additiveref39_fields p0), fun _ => none) := by
 unfold u_additiveref39_fields
 have f1 : ∀ (H : Heap) (g0 : Nat), bslV H g0 6 1 3 (some [.int .i64 p0.X, .int .i64 p0.Y, .int .i64 p0.Z, .int .i64 p0.E, .int .i64 p0.F, .int .i64 p0.S]) = some (.arr g0 (newVer H g0) 0 (flit ([p0.X, p0.Y, p0.Z, p0.E, p0.F, p0.S] : List Int)).l.length, upd H g0 (some (.arr (newVer H g0) 1 3 (cellsE e_i64 (flit ([p0.X, p0.Y, p0.Z, p0.E, p0.F, p0.S] : List Int)).l) false))) := fun H g0 => rfl
 refine FC_pure (lf := lf79) rfl rfl rfl ?_
 simp only [lf79, lc79]
 simp (maxSteps := 4000000) [f1, snap_rowD (e := e_i64) (el := 3) (fz := false)]
theorem t_additiveref39_fields_ok {p0 : api_Cmd} {r : (FS Int)} (h : t_additiveref39_fields p0 = some r) : FC env 79 [.agg [.int .i64 p0.Code, .int .i64 p0.Has, .int .i64 p0.X, .int .i64 p0.Y, .int .i64 p0.Z, .int .i64 p0.E, .int .i64 p0.F, .int .i64 p0.S]] none = some (encF e_i64 r, fun _ => none) := by
 cases h
 exact u_additiveref39_fields_ok _

/-! additiveref39.ranged -/
attribute [simp] c80_0 c80_1 c80_2 c80_3 c80_4 c80_5 c80_6 c80_7 c80_8 c80_9
def t_additiveref39_ranged (p0 : Int) (p1 : Int) (p2 : Int) : Option Bool := (if (ilt p1 4) = true then some (band (ige p2 (-1073741824)) (ile p2 1073741824))
 else (if (ieq p1 4) = true then some (band (ige p2 1) (ile p2 1048576))
 else (if (ieq p0 4) = true then some (band (ige p2 0) (ile p2 1048576))
 else (if (ieq p0 1106) = true then some (band (ige p2 0) (ile p2 255))
 else some (band (ige p2 0) (ile p2 400000))))))
theorem t_additiveref39_ranged_ok {p0 : Int} {p1 : Int} {p2 : Int} {r : Bool} (h : t_additiveref39_ranged p0 p1 p2 = some r) : FC env 80 [.int .i64 p0, .int .i64 p1, .int .i64 p2] none = some (.bool r, fun _ => none) := by
 unfold t_additiveref39_ranged at h
 by_cases c1 : (ilt p1 4) = true
 · rw [if_pos c1] at h
   cases h
   refine FC_pure (lf := lf80) rfl rfl rfl ?_
   simp only [lf80, lc80]
   rcases tof (ige p2 (-1073741824)) with a2 | a2
   · simp (maxSteps := 4000000) [c1, a2]
   · simp (maxSteps := 4000000) [c1, a2]
 · rw [if_neg c1] at h
   rw [Bool.not_eq_true] at c1
   by_cases c3 : (ieq p1 4) = true
   · rw [if_pos c3] at h
     cases h
     refine FC_pure (lf := lf80) rfl rfl rfl ?_
     simp only [lf80, lc80]
     rcases tof (ige p2 1) with a4 | a4
     · simp (maxSteps := 4000000) [c1, c3, a4]
     · simp (maxSteps := 4000000) [c1, c3, a4]
   · rw [if_neg c3] at h
     rw [Bool.not_eq_true] at c3
     by_cases c5 : (ieq p0 4) = true
     · rw [if_pos c5] at h
       cases h
       refine FC_pure (lf := lf80) rfl rfl rfl ?_
       simp only [lf80, lc80]
       rcases tof (ige p2 0) with a6 | a6
       · simp (maxSteps := 4000000) [c1, c3, c5, a6]
       · simp (maxSteps := 4000000) [c1, c3, c5, a6]
     · rw [if_neg c5] at h
       rw [Bool.not_eq_true] at c5
       by_cases c7 : (ieq p0 1106) = true
       · rw [if_pos c7] at h
         cases h
         refine FC_pure (lf := lf80) rfl rfl rfl ?_
         simp only [lf80, lc80]
         rcases tof (ige p2 0) with a8 | a8
         · simp (maxSteps := 4000000) [c1, c3, c5, c7, a8]
         · simp (maxSteps := 4000000) [c1, c3, c5, c7, a8]
       · rw [if_neg c7] at h
         rw [Bool.not_eq_true] at c7
         cases h
         refine FC_pure (lf := lf80) rfl rfl rfl ?_
         simp only [lf80, lc80]
         rcases tof (ige p2 0) with a9 | a9
         · simp (maxSteps := 4000000) [c1, c3, c5, c7, a9]
         · simp (maxSteps := 4000000) [c1, c3, c5, c7, a9]

/-! additiveref39.Valid -/
attribute [simp] c40_0 c40_1 c40_2 c40_3 c40_4 c40_5 c40_6 c40_7 c40_8 c40_9 c40_11
theorem c40_L0_u (Γ : Env) (ps : List Nat) (σ : St) : EC Γ ps 0 c40_L0 σ = EC Γ ps 0 (.seq (.seq (.reg false c40_5) (.cond (.t 37) .skip (.seq (.trim []) (.exit 0)))) (.seq (.blk 1 (.seq (.reg false c40_6) (.seq (.reg true c40_7) (.cond (.t 69) (.seq (.reg false c40_8) (.seq (.trim [2]) .ret)) .skip)))) (.reg false c40_9))) σ := rfl
attribute [simp ↓] c40_L0_u
def t_additiveref39_Valid_L0 (k0 : api_Cmd) (k1 : (FS Int)) (s : Int) : Option (LR Int (Bool ⊕ Unit)) := match s with
 | s0 => (if (ilt s0 (flen k1)) = true then (if ilt (icnv .u64 s0) 0 = true then none else (match gOpt (ieq (iand .i64 (ishr .i64 k0.Has (icnv .u64 s0)) 1) 1) (fget k1 s0) with
 | none => none
 | some v16 => (match gOpt (ieq (iand .i64 (ishr .i64 k0.Has (icnv .u64 s0)) 1) 1) (t_additiveref39_ranged k0.Code s0 (v16.getD 0)) with
 | none => none
 | some v19 => (match gOpt (band (bnot (band (ieq (iand .i64 (ishr .i64 k0.Has (icnv .u64 s0)) 1) 1) (bnot (v19.getD false)))) (bnot (ieq (iand .i64 (ishr .i64 k0.Has (icnv .u64 s0)) 1) 1))) (fget k1 s0) with
 | none => none
 | some v22 => (if (bor (band (ieq (iand .i64 (ishr .i64 k0.Has (icnv .u64 s0)) 1) 1) (bnot (v19.getD false))) (band (bnot (ieq (iand .i64 (ishr .i64 k0.Has (icnv .u64 s0)) 1) 1)) (ine (v22.getD 0) 0))) = true then some (.dn (.inl false))
 else some (.nx (iadd .i64 s0 1)))))))
 else some (.dn (.inr ())))
def t_additiveref39_Valid_L0_st (k0 : api_Cmd) (k1 : (FS Int)) (s : Int) : St := match s with
 | s0 => ⟨fr [(1, .ptr 1 0 0), (3, encF e_i64 k1), (4, .int .i64 s0)], hl [(1, .box 0 [.int .i64 k0.Code, .int .i64 k0.Has, .int .i64 k0.X, .int .i64 k0.Y, .int .i64 k0.Z, .int .i64 k0.E, .int .i64 k0.F, .int .i64 k0.S])]⟩
def t_additiveref39_Valid_L0_out (k0 : api_Cmd) (k1 : (FS Int)) (x : (Bool ⊕ Unit)) : LE × St := match x with
 | .inl x => (.ret, ⟨fr [(2, .bool x)], hl []⟩)
 | .inr x => (.exit 0, ⟨fr [], hl []⟩)
theorem t_additiveref39_Valid_L0_ok {k0 : api_Cmd} {k1 : (FS Int)} {s : Int} {r : (Bool ⊕ Unit)} (h : loopT (t_additiveref39_Valid_L0 k0 k1) bigN s = some r) : LK env [] 0 [1, 3, 4] c40_L0 (some (t_additiveref39_Valid_L0_st k0 k1 s)) = some (t_additiveref39_Valid_L0_out k0 k1 r) := loop_walk (st := t_additiveref39_Valid_L0_st k0 k1) (out := t_additiveref39_Valid_L0_out k0 k1) (by
 clear h s r
 rintro s0 x h
 simp only [t_additiveref39_Valid_L0] at h
 by_cases c16 : (ilt s0 (flen k1)) = true
 · rw [if_pos c16] at h
   by_cases h17 : ilt (icnv .u64 s0) 0 = true
   · rw [if_pos h17] at h; cases h
   · rw [if_neg h17] at h
     rw [Bool.not_eq_true] at h17
     cases h19 : gOpt (ieq (iand .i64 (ishr .i64 k0.Has (icnv .u64 s0)) 1) 1) (fget k1 s0) with
     | none => (rw [h19] at h; cases h)
     | some v20 =>
      simp only [h19] at h
      have f18 := fun (q0 : (ieq (iand .i64 (ishr .i64 k0.Has (icnv .u64 s0)) 1) 1) = true) => iaddr_F (e := e_i64) (gOpt_getD 0 h19 q0)
      cases h22 : gOpt (ieq (iand .i64 (ishr .i64 k0.Has (icnv .u64 s0)) 1) 1) (t_additiveref39_ranged k0.Code s0 (v20.getD 0)) with
      | none => (rw [h22] at h; cases h)
      | some v23 =>
       simp only [h22] at h
       have f21 := fun (q0 : (ieq (iand .i64 (ishr .i64 k0.Has (icnv .u64 s0)) 1) 1) = true) => t_additiveref39_ranged_ok (gOpt_getD false h22 q0)
       cases h25 : gOpt (band (bnot (band (ieq (iand .i64 (ishr .i64 k0.Has (icnv .u64 s0)) 1) 1) (bnot (v23.getD false)))) (bnot (ieq (iand .i64 (ishr .i64 k0.Has (icnv .u64 s0)) 1) 1))) (fget k1 s0) with
       | none => (rw [h25] at h; cases h)
       | some v26 =>
        simp only [h25] at h
        have f24 := fun (q0 : (band (ieq (iand .i64 (ishr .i64 k0.Has (icnv .u64 s0)) 1) 1) (bnot (v23.getD false))) = false) (q1 : (bnot (ieq (iand .i64 (ishr .i64 k0.Has (icnv .u64 s0)) 1) 1)) = true) => iaddr_F (e := e_i64) (gOpt_getD 0 h25 (band_mk (bnot_mk q0) q1))
        have f27 := fun (q0 : (ieq (iand .i64 (ishr .i64 k0.Has (icnv .u64 s0)) 1) 1) = true) (r0 : (band (ieq (iand .i64 (ishr .i64 k0.Has (icnv .u64 s0)) 1) 1) (bnot (v23.getD false))) = false) (r1 : (bnot (ieq (iand .i64 (ishr .i64 k0.Has (icnv .u64 s0)) 1) 1)) = true) => gOpt_eqD 0 h19 q0 (gOpt_getD 0 h25 (band_mk (bnot_mk r0) r1))
        by_cases c28 : (bor (band (ieq (iand .i64 (ishr .i64 k0.Has (icnv .u64 s0)) 1) 1) (bnot (v23.getD false))) (band (bnot (ieq (iand .i64 (ishr .i64 k0.Has (icnv .u64 s0)) 1) 1)) (ine (v26.getD 0) 0))) = true
        · rw [if_pos c28] at h
          cases h
          show LK env [] 0 [1, 3, 4] c40_L0 (some (t_additiveref39_Valid_L0_st _ _ _)) = some (t_additiveref39_Valid_L0_out _ _ _)
          simp only [t_additiveref39_Valid_L0_st, t_additiveref39_Valid_L0_out]
          rw [LK_step]
          rcases tof (ieq (iand .i64 (ishr .i64 k0.Has (icnv .u64 s0)) 1) 1) with a29 | a29
          · rcases tof (v23.getD false) with a30 | a30
            · simp [c16, a29, a30] at c28
            · simp (maxSteps := 4000000) [c16, a29, a30, h17, f18, f21, f24]
          · rcases tof (ine (v26.getD 0) 0) with a31 | a31
            · simp (maxSteps := 4000000) [c16, a29, a31, h17, f18, f21, f24]
            · simp [c16, a29, a31] at c28
        · rw [if_neg c28] at h
          rw [Bool.not_eq_true] at c28
          cases h
          show LK env [] 0 [1, 3, 4] c40_L0 (some (t_additiveref39_Valid_L0_st _ _ _)) = LK env [] 0 [1, 3, 4] c40_L0 (some (t_additiveref39_Valid_L0_st _ _ _))
          simp only [t_additiveref39_Valid_L0_st]
          rw [LK_step]
          rcases tof (ieq (iand .i64 (ishr .i64 k0.Has (icnv .u64 s0)) 1) 1) with a32 | a32
          · rcases tof (v23.getD false) with a33 | a33
            · simp (maxSteps := 4000000) [c16, a32, a33, h17, f18, f21, f24]
            · simp [c16, a32, a33] at c28
          · rcases tof (ine (v26.getD 0) 0) with a34 | a34
            · simp [c16, a32, a34] at c28
            · simp (maxSteps := 4000000) [c16, a32, a34, h17, f18, f21, f24]
 · rw [if_neg c16] at h
   rw [Bool.not_eq_true] at c16
   cases h
   show LK env [] 0 [1, 3, 4] c40_L0 (some (t_additiveref39_Valid_L0_st _ _ _)) = some (t_additiveref39_Valid_L0_out _ _ _)
   simp only [t_additiveref39_Valid_L0_st, t_additiveref39_Valid_L0_out]
   rw [LK_step]
   simp (maxSteps := 4000000) [c16]) bigN s r h
def t_additiveref39_Valid (p0 : api_Cmd) : Option Bool := (match t_additiveref39_known p0.Code with
 | none => none
 | some v3 => (match gOpt (bnot (bor (bnot v3) (ilt p0.Has 0))) (t_additiveref39_allowed p0.Code) with
 | none => none
 | some v6 => (match gOpt (bnot (bor (bor (bnot v3) (ilt p0.Has 0)) (ine (iandn .i64 p0.Has (v6.getD 0)) 0))) (t_additiveref39_complete p0.Code p0.Has) with
 | none => none
 | some v9 => (if (bor (bor (bor (bnot v3) (ilt p0.Has 0)) (ine (iandn .i64 p0.Has (v6.getD 0)) 0)) (bnot (v9.getD false))) = true then some false
 else (match loopT (t_additiveref39_Valid_L0 p0 (u_additiveref39_fields p0)) bigN 0 with
 | none => none
 | some v26 => (match v26 with
 | .inl v26x => some v26x
 | .inr v26x => some true))))))
theorem t_additiveref39_Valid_ok {p0 : api_Cmd} {r : Bool} (h : t_additiveref39_Valid p0 = some r) : FC env 40 [.agg [.int .i64 p0.Code, .int .i64 p0.Has, .int .i64 p0.X, .int .i64 p0.Y, .int .i64 p0.Z, .int .i64 p0.E, .int .i64 p0.F, .int .i64 p0.S]] none = some (.bool r, fun _ => none) := by
 unfold t_additiveref39_Valid at h
 cases h2 : t_additiveref39_known p0.Code with
 | none => (rw [h2] at h; cases h)
 | some v3 =>
  simp only [h2] at h
  have f1 := t_additiveref39_known_ok h2
  cases h5 : gOpt (bnot (bor (bnot v3) (ilt p0.Has 0))) (t_additiveref39_allowed p0.Code) with
  | none => (rw [h5] at h; cases h)
  | some v6 =>
   simp only [h5] at h
   have f4 := fun (q0 : (bor (bnot v3) (ilt p0.Has 0)) = false) => t_additiveref39_allowed_ok (gOpt_getD 0 h5 (bnot_mk q0))
   cases h8 : gOpt (bnot (bor (bor (bnot v3) (ilt p0.Has 0)) (ine (iandn .i64 p0.Has (v6.getD 0)) 0))) (t_additiveref39_complete p0.Code p0.Has) with
   | none => (rw [h8] at h; cases h)
   | some v9 =>
    simp only [h8] at h
    have f7 := fun (q0 : (bor (bor (bnot v3) (ilt p0.Has 0)) (ine (iandn .i64 p0.Has (v6.getD 0)) 0)) = false) => t_additiveref39_complete_ok (gOpt_getD false h8 (bnot_mk q0))
    by_cases c10 : (bor (bor (bor (bnot v3) (ilt p0.Has 0)) (ine (iandn .i64 p0.Has (v6.getD 0)) 0)) (bnot (v9.getD false))) = true
    · rw [if_pos c10] at h
      cases h
      refine FC_pure (lf := lf40) rfl rfl rfl ?_
      simp only [lf40, lc40]
      rcases tof v3 with a11 | a11
      · rcases tof (ilt p0.Has 0) with a12 | a12
        · simp (maxSteps := 4000000) [a11, a12, f1, f4, f7]
        · rcases tof (ine (iandn .i64 p0.Has (v6.getD 0)) 0) with a13 | a13
          · simp (maxSteps := 4000000) [a11, a12, a13, f1, f4, f7]
          · rcases tof (v9.getD false) with a14 | a14
            · simp [a11, a12, a13, a14] at c10
            · simp (maxSteps := 4000000) [a11, a12, a13, a14, f1, f4, f7]
      · simp (maxSteps := 4000000) [a11, f1, f4, f7]
    · rw [if_neg c10] at h
      rw [Bool.not_eq_true] at c10
      have f15 := u_additiveref39_fields_ok p0
      cases h35 : loopT (t_additiveref39_Valid_L0 p0 (u_additiveref39_fields p0)) bigN 0 with
      | none => (rw [h35] at h; cases h)
      | some v36 =>
       simp only [h35] at h
       have f37 := t_additiveref39_Valid_L0_ok h35
       cases v36 with
       | inl v36x =>
        try simp only at h
        simp only [t_additiveref39_Valid_L0_st, t_additiveref39_Valid_L0_out, fset_len] at f37
        try simp only [fcase_nil, fcase_lst, fcase_fsnoc, fcase_fapp, fcase_fset, fcase_frep, fcase_flit, fcase_flst] at f37
        cases h
        refine FC_pure (lf := lf40) rfl rfl rfl ?_
        simp only [lf40, lc40]
        rcases tof v3 with a38 | a38
        · rcases tof (ilt p0.Has 0) with a39 | a39
          · simp [a38, a39] at c10
          · rcases tof (ine (iandn .i64 p0.Has (v6.getD 0)) 0) with a40 | a40
            · simp [a38, a39, a40] at c10
            · rcases tof (v9.getD false) with a41 | a41
              · try simp only [a38, a39, a40, a41] at f37
                simp (maxSteps := 4000000) [a38, a39, a40, a41, f1, f4, f7, f15, f37]
              · simp [a38, a39, a40, a41] at c10
        · simp [a38] at c10
       | inr v36x =>
        try simp only at h
        simp only [t_additiveref39_Valid_L0_st, t_additiveref39_Valid_L0_out, fset_len] at f37
        try simp only [fcase_nil, fcase_lst, fcase_fsnoc, fcase_fapp, fcase_fset, fcase_frep, fcase_flit, fcase_flst] at f37
        cases h
        refine FC_pure (lf := lf40) rfl rfl rfl ?_
        simp only [lf40, lc40]
        rcases tof v3 with a42 | a42
        · rcases tof (ilt p0.Has 0) with a43 | a43
          · simp [a42, a43] at c10
          · rcases tof (ine (iandn .i64 p0.Has (v6.getD 0)) 0) with a44 | a44
            · simp [a42, a43, a44] at c10
            · rcases tof (v9.getD false) with a45 | a45
              · try simp only [a42, a43, a44, a45] at f37
                simp (maxSteps := 4000000) [a42, a43, a44, a45, f1, f4, f7, f15, f37]
              · simp [a42, a43, a44, a45] at c10
        · simp [a42] at c10

/-! additiveref35.in -/
attribute [simp] c109_0 c109_1
def u_additiveref35_in (p0 : Int) (p1 : Int) (p2 : Int) : Bool := (band (ige p0 p1) (ile p0 p2))
def t_additiveref35_in (p0 : Int) (p1 : Int) (p2 : Int) : Option Bool := some (u_additiveref35_in p0 p1 p2)
theorem u_additiveref35_in_ok (p0 : Int) (p1 : Int) (p2 : Int) : FC env 109 [.int .i64 p0, .int .i64 p1, .int .i64 p2] none = some (.bool (u_additiveref35_in p0 p1 p2), fun _ => none) := by
 unfold u_additiveref35_in
 refine FC_pure (lf := lf109) rfl rfl rfl ?_
 simp only [lf109, lc109]
 rcases tof (ige p0 p1) with a1 | a1
 · simp (maxSteps := 4000000) [a1]
 · simp (maxSteps := 4000000) [a1]
theorem t_additiveref35_in_ok {p0 : Int} {p1 : Int} {p2 : Int} {r : Bool} (h : t_additiveref35_in p0 p1 p2 = some r) : FC env 109 [.int .i64 p0, .int .i64 p1, .int .i64 p2] none = some (.bool r, fun _ => none) := by
 cases h
 exact u_additiveref35_in_ok _ _ _

/-! additiveref35.Valid -/
attribute [simp] c81_0 c81_1 c81_2 c81_3 c81_4 c81_5 c81_6 c81_7 c81_8 c81_9
def t_additiveref35_Valid (p0 : api_Settings) : Option Bool := (if (bor (bor (bor (bnot (u_additiveref35_in p0.Pitch 32 1024)) (ine (irem p0.Pitch 2) 0)) (bnot (u_additiveref35_in p0.Height 4 1024))) (ine (irem p0.Height 2) 0)) = true then some false
 else (if (bor (bor (bor (bor (bnot (u_additiveref35_in p0.Walls 0 8)) (bnot (u_additiveref35_in p0.Top 0 16))) (bnot (u_additiveref35_in p0.Bottom 0 16))) (bnot (u_additiveref35_in p0.Pattern 0 3))) (bnot (u_additiveref35_in p0.Spacing 1 64))) = true then some false
 else (if (bor (bor (bor (bnot (u_additiveref35_in p0.Reach 0 64)) (bnot (u_additiveref35_in p0.Gap 0 64))) (bnot (u_additiveref35_in p0.Brim 0 64))) (bnot (u_additiveref35_in p0.Skirt 0 63))) = true then some false
 else (if (bor (bor (bor (bnot (u_additiveref35_in p0.Drop 1 1073741824)) (bnot (u_additiveref35_in p0.Feed 1 1048576))) (bnot (u_additiveref35_in p0.Travel 1 1048576))) (bnot (u_additiveref35_in p0.Retract 0 65536))) = true then some false
 else some (band (band (band (u_additiveref35_in p0.MinTime 0 1048576) (u_additiveref35_in p0.MinFeed 1 p0.Feed)) (u_additiveref35_in p0.Nozzle 0 400000)) (u_additiveref35_in p0.Bed 0 400000))))))
theorem t_additiveref35_Valid_ok {p0 : api_Settings} {r : Bool} (h : t_additiveref35_Valid p0 = some r) : FC env 81 [.agg [.int .i64 p0.Pitch, .int .i64 p0.Height, .int .i64 p0.Walls, .int .i64 p0.Top, .int .i64 p0.Bottom, .int .i64 p0.Pattern, .int .i64 p0.Spacing, .bool p0.Support, .int .i64 p0.Reach, .int .i64 p0.Gap, .int .i64 p0.Brim, .int .i64 p0.Skirt, .int .i64 p0.Drop, .int .i64 p0.Feed, .int .i64 p0.Travel, .int .i64 p0.Retract, .int .i64 p0.MinTime, .int .i64 p0.MinFeed, .int .i64 p0.Nozzle, .int .i64 p0.Bed]] none = some (.bool r, fun _ => none) := by
 unfold t_additiveref35_Valid at h
 have f1 := u_additiveref35_in_ok p0.Pitch 32 1024
 have f2 := u_additiveref35_in_ok p0.Height 4 1024
 by_cases c3 : (bor (bor (bor (bnot (u_additiveref35_in p0.Pitch 32 1024)) (ine (irem p0.Pitch 2) 0)) (bnot (u_additiveref35_in p0.Height 4 1024))) (ine (irem p0.Height 2) 0)) = true
 · rw [if_pos c3] at h
   cases h
   refine FC_pure (lf := lf81) rfl rfl rfl ?_
   simp only [lf81, lc81]
   rcases tof (u_additiveref35_in p0.Pitch 32 1024) with a4 | a4
   · rcases tof (ine (irem p0.Pitch 2) 0) with a5 | a5
     · simp (maxSteps := 4000000) [a4, a5, f1, (show ieq 2 0 = false from rfl), f2, (show ieq 2 0 = false from rfl)]
     · rcases tof (u_additiveref35_in p0.Height 4 1024) with a6 | a6
       · rcases tof (ine (irem p0.Height 2) 0) with a7 | a7
         · simp (maxSteps := 4000000) [a4, a5, a6, a7, f1, (show ieq 2 0 = false from rfl), f2, (show ieq 2 0 = false from rfl)]
         · simp [a4, a5, a6, a7] at c3
       · simp (maxSteps := 4000000) [a4, a5, a6, f1, (show ieq 2 0 = false from rfl), f2, (show ieq 2 0 = false from rfl)]
   · simp (maxSteps := 4000000) [a4, f1, (show ieq 2 0 = false from rfl), f2, (show ieq 2 0 = false from rfl)]
 · rw [if_neg c3] at h
   rw [Bool.not_eq_true] at c3
   have f8 := u_additiveref35_in_ok p0.Walls 0 8
   have f9 := u_additiveref35_in_ok p0.Top 0 16
   have f10 := u_additiveref35_in_ok p0.Bottom 0 16
   have f11 := u_additiveref35_in_ok p0.Pattern 0 3
   have f12 := u_additiveref35_in_ok p0.Spacing 1 64
   by_cases c13 : (bor (bor (bor (bor (bnot (u_additiveref35_in p0.Walls 0 8)) (bnot (u_additiveref35_in p0.Top 0 16))) (bnot (u_additiveref35_in p0.Bottom 0 16))) (bnot (u_additiveref35_in p0.Pattern 0 3))) (bnot (u_additiveref35_in p0.Spacing 1 64))) = true
   · rw [if_pos c13] at h
     cases h
     refine FC_pure (lf := lf81) rfl rfl rfl ?_
     simp only [lf81, lc81]
     rcases tof (u_additiveref35_in p0.Pitch 32 1024) with a14 | a14
     · rcases tof (ine (irem p0.Pitch 2) 0) with a15 | a15
       · simp [a14, a15] at c3
       · rcases tof (u_additiveref35_in p0.Height 4 1024) with a16 | a16
         · rcases tof (ine (irem p0.Height 2) 0) with a17 | a17
           · simp [a14, a15, a16, a17] at c3
           · rcases tof (u_additiveref35_in p0.Walls 0 8) with a18 | a18
             · rcases tof (u_additiveref35_in p0.Top 0 16) with a19 | a19
               · rcases tof (u_additiveref35_in p0.Bottom 0 16) with a20 | a20
                 · rcases tof (u_additiveref35_in p0.Pattern 0 3) with a21 | a21
                   · rcases tof (u_additiveref35_in p0.Spacing 1 64) with a22 | a22
                     · simp [a14, a15, a16, a17, a18, a19, a20, a21, a22] at c13
                     · simp (maxSteps := 4000000) [a14, a15, a16, a17, a18, a19, a20, a21, a22, f1, (show ieq 2 0 = false from rfl), f2, (show ieq 2 0 = false from rfl), f8, f9, f10, f11, f12]
                   · simp (maxSteps := 4000000) [a14, a15, a16, a17, a18, a19, a20, a21, f1, (show ieq 2 0 = false from rfl), f2, (show ieq 2 0 = false from rfl), f8, f9, f10, f11, f12]
                 · simp (maxSteps := 4000000) [a14, a15, a16, a17, a18, a19, a20, f1, (show ieq 2 0 = false from rfl), f2, (show ieq 2 0 = false from rfl), f8, f9, f10, f11, f12]
               · simp (maxSteps := 4000000) [a14, a15, a16, a17, a18, a19, f1, (show ieq 2 0 = false from rfl), f2, (show ieq 2 0 = false from rfl), f8, f9, f10, f11, f12]
             · simp (maxSteps := 4000000) [a14, a15, a16, a17, a18, f1, (show ieq 2 0 = false from rfl), f2, (show ieq 2 0 = false from rfl), f8, f9, f10, f11, f12]
         · simp [a14, a15, a16] at c3
     · simp [a14] at c3
   · rw [if_neg c13] at h
     rw [Bool.not_eq_true] at c13
     have f23 := u_additiveref35_in_ok p0.Reach 0 64
     have f24 := u_additiveref35_in_ok p0.Gap 0 64
     have f25 := u_additiveref35_in_ok p0.Brim 0 64
     have f26 := u_additiveref35_in_ok p0.Skirt 0 63
     by_cases c27 : (bor (bor (bor (bnot (u_additiveref35_in p0.Reach 0 64)) (bnot (u_additiveref35_in p0.Gap 0 64))) (bnot (u_additiveref35_in p0.Brim 0 64))) (bnot (u_additiveref35_in p0.Skirt 0 63))) = true
     · rw [if_pos c27] at h
       cases h
       refine FC_pure (lf := lf81) rfl rfl rfl ?_
       simp only [lf81, lc81]
       rcases tof (u_additiveref35_in p0.Pitch 32 1024) with a28 | a28
       · rcases tof (ine (irem p0.Pitch 2) 0) with a29 | a29
         · simp [a28, a29] at c3
         · rcases tof (u_additiveref35_in p0.Height 4 1024) with a30 | a30
           · rcases tof (ine (irem p0.Height 2) 0) with a31 | a31
             · simp [a28, a29, a30, a31] at c3
             · rcases tof (u_additiveref35_in p0.Walls 0 8) with a32 | a32
               · rcases tof (u_additiveref35_in p0.Top 0 16) with a33 | a33
                 · rcases tof (u_additiveref35_in p0.Bottom 0 16) with a34 | a34
                   · rcases tof (u_additiveref35_in p0.Pattern 0 3) with a35 | a35
                     · rcases tof (u_additiveref35_in p0.Spacing 1 64) with a36 | a36
                       · rcases tof (u_additiveref35_in p0.Reach 0 64) with a37 | a37
                         · rcases tof (u_additiveref35_in p0.Gap 0 64) with a38 | a38
                           · rcases tof (u_additiveref35_in p0.Brim 0 64) with a39 | a39
                             · rcases tof (u_additiveref35_in p0.Skirt 0 63) with a40 | a40
                               · simp [a28, a29, a30, a31, a32, a33, a34, a35, a36, a37, a38, a39, a40] at c27
                               · simp (maxSteps := 4000000) [a28, a29, a30, a31, a32, a33, a34, a35, a36, a37, a38, a39, a40, f1, (show ieq 2 0 = false from rfl), f2, (show ieq 2 0 = false from rfl), f8, f9, f10, f11, f12, f23, f24, f25, f26]
                             · simp (maxSteps := 4000000) [a28, a29, a30, a31, a32, a33, a34, a35, a36, a37, a38, a39, f1, (show ieq 2 0 = false from rfl), f2, (show ieq 2 0 = false from rfl), f8, f9, f10, f11, f12, f23, f24, f25, f26]
                           · simp (maxSteps := 4000000) [a28, a29, a30, a31, a32, a33, a34, a35, a36, a37, a38, f1, (show ieq 2 0 = false from rfl), f2, (show ieq 2 0 = false from rfl), f8, f9, f10, f11, f12, f23, f24, f25, f26]
                         · simp (maxSteps := 4000000) [a28, a29, a30, a31, a32, a33, a34, a35, a36, a37, f1, (show ieq 2 0 = false from rfl), f2, (show ieq 2 0 = false from rfl), f8, f9, f10, f11, f12, f23, f24, f25, f26]
                       · simp [a28, a29, a30, a31, a32, a33, a34, a35, a36] at c13
                     · simp [a28, a29, a30, a31, a32, a33, a34, a35] at c13
                   · simp [a28, a29, a30, a31, a32, a33, a34] at c13
                 · simp [a28, a29, a30, a31, a32, a33] at c13
               · simp [a28, a29, a30, a31, a32] at c13
           · simp [a28, a29, a30] at c3
       · simp [a28] at c3
     · rw [if_neg c27] at h
       rw [Bool.not_eq_true] at c27
       have f41 := u_additiveref35_in_ok p0.Drop 1 1073741824
       have f42 := u_additiveref35_in_ok p0.Feed 1 1048576
       have f43 := u_additiveref35_in_ok p0.Travel 1 1048576
       have f44 := u_additiveref35_in_ok p0.Retract 0 65536
       by_cases c45 : (bor (bor (bor (bnot (u_additiveref35_in p0.Drop 1 1073741824)) (bnot (u_additiveref35_in p0.Feed 1 1048576))) (bnot (u_additiveref35_in p0.Travel 1 1048576))) (bnot (u_additiveref35_in p0.Retract 0 65536))) = true
       · rw [if_pos c45] at h
         cases h
         refine FC_pure (lf := lf81) rfl rfl rfl ?_
         simp only [lf81, lc81]
         rcases tof (u_additiveref35_in p0.Pitch 32 1024) with a46 | a46
         · rcases tof (ine (irem p0.Pitch 2) 0) with a47 | a47
           · simp [a46, a47] at c3
           · rcases tof (u_additiveref35_in p0.Height 4 1024) with a48 | a48
             · rcases tof (ine (irem p0.Height 2) 0) with a49 | a49
               · simp [a46, a47, a48, a49] at c3
               · rcases tof (u_additiveref35_in p0.Walls 0 8) with a50 | a50
                 · rcases tof (u_additiveref35_in p0.Top 0 16) with a51 | a51
                   · rcases tof (u_additiveref35_in p0.Bottom 0 16) with a52 | a52
                     · rcases tof (u_additiveref35_in p0.Pattern 0 3) with a53 | a53
                       · rcases tof (u_additiveref35_in p0.Spacing 1 64) with a54 | a54
                         · rcases tof (u_additiveref35_in p0.Reach 0 64) with a55 | a55
                           · rcases tof (u_additiveref35_in p0.Gap 0 64) with a56 | a56
                             · rcases tof (u_additiveref35_in p0.Brim 0 64) with a57 | a57
                               · rcases tof (u_additiveref35_in p0.Skirt 0 63) with a58 | a58
                                 · rcases tof (u_additiveref35_in p0.Drop 1 1073741824) with a59 | a59
                                   · rcases tof (u_additiveref35_in p0.Feed 1 1048576) with a60 | a60
                                     · rcases tof (u_additiveref35_in p0.Travel 1 1048576) with a61 | a61
                                       · rcases tof (u_additiveref35_in p0.Retract 0 65536) with a62 | a62
                                         · simp [a46, a47, a48, a49, a50, a51, a52, a53, a54, a55, a56, a57, a58, a59, a60, a61, a62] at c45
                                         · simp (maxSteps := 4000000) [a46, a47, a48, a49, a50, a51, a52, a53, a54, a55, a56, a57, a58, a59, a60, a61, a62, f1, (show ieq 2 0 = false from rfl), f2, (show ieq 2 0 = false from rfl), f8, f9, f10, f11, f12, f23, f24, f25, f26, f41, f42, f43, f44]
                                       · simp (maxSteps := 4000000) [a46, a47, a48, a49, a50, a51, a52, a53, a54, a55, a56, a57, a58, a59, a60, a61, f1, (show ieq 2 0 = false from rfl), f2, (show ieq 2 0 = false from rfl), f8, f9, f10, f11, f12, f23, f24, f25, f26, f41, f42, f43, f44]
                                     · simp (maxSteps := 4000000) [a46, a47, a48, a49, a50, a51, a52, a53, a54, a55, a56, a57, a58, a59, a60, f1, (show ieq 2 0 = false from rfl), f2, (show ieq 2 0 = false from rfl), f8, f9, f10, f11, f12, f23, f24, f25, f26, f41, f42, f43, f44]
                                   · simp (maxSteps := 4000000) [a46, a47, a48, a49, a50, a51, a52, a53, a54, a55, a56, a57, a58, a59, f1, (show ieq 2 0 = false from rfl), f2, (show ieq 2 0 = false from rfl), f8, f9, f10, f11, f12, f23, f24, f25, f26, f41, f42, f43, f44]
                                 · simp [a46, a47, a48, a49, a50, a51, a52, a53, a54, a55, a56, a57, a58] at c27
                               · simp [a46, a47, a48, a49, a50, a51, a52, a53, a54, a55, a56, a57] at c27
                             · simp [a46, a47, a48, a49, a50, a51, a52, a53, a54, a55, a56] at c27
                           · simp [a46, a47, a48, a49, a50, a51, a52, a53, a54, a55] at c27
                         · simp [a46, a47, a48, a49, a50, a51, a52, a53, a54] at c13
                       · simp [a46, a47, a48, a49, a50, a51, a52, a53] at c13
                     · simp [a46, a47, a48, a49, a50, a51, a52] at c13
                   · simp [a46, a47, a48, a49, a50, a51] at c13
                 · simp [a46, a47, a48, a49, a50] at c13
             · simp [a46, a47, a48] at c3
         · simp [a46] at c3
       · rw [if_neg c45] at h
         rw [Bool.not_eq_true] at c45
         have f63 := u_additiveref35_in_ok p0.MinTime 0 1048576
         have f64 := u_additiveref35_in_ok p0.MinFeed 1 p0.Feed
         have f65 := u_additiveref35_in_ok p0.Nozzle 0 400000
         have f66 := u_additiveref35_in_ok p0.Bed 0 400000
         cases h
         refine FC_pure (lf := lf81) rfl rfl rfl ?_
         simp only [lf81, lc81]
         rcases tof (u_additiveref35_in p0.Pitch 32 1024) with a67 | a67
         · rcases tof (ine (irem p0.Pitch 2) 0) with a68 | a68
           · simp [a67, a68] at c3
           · rcases tof (u_additiveref35_in p0.Height 4 1024) with a69 | a69
             · rcases tof (ine (irem p0.Height 2) 0) with a70 | a70
               · simp [a67, a68, a69, a70] at c3
               · rcases tof (u_additiveref35_in p0.Walls 0 8) with a71 | a71
                 · rcases tof (u_additiveref35_in p0.Top 0 16) with a72 | a72
                   · rcases tof (u_additiveref35_in p0.Bottom 0 16) with a73 | a73
                     · rcases tof (u_additiveref35_in p0.Pattern 0 3) with a74 | a74
                       · rcases tof (u_additiveref35_in p0.Spacing 1 64) with a75 | a75
                         · rcases tof (u_additiveref35_in p0.Reach 0 64) with a76 | a76
                           · rcases tof (u_additiveref35_in p0.Gap 0 64) with a77 | a77
                             · rcases tof (u_additiveref35_in p0.Brim 0 64) with a78 | a78
                               · rcases tof (u_additiveref35_in p0.Skirt 0 63) with a79 | a79
                                 · rcases tof (u_additiveref35_in p0.Drop 1 1073741824) with a80 | a80
                                   · rcases tof (u_additiveref35_in p0.Feed 1 1048576) with a81 | a81
                                     · rcases tof (u_additiveref35_in p0.Travel 1 1048576) with a82 | a82
                                       · rcases tof (u_additiveref35_in p0.Retract 0 65536) with a83 | a83
                                         · rcases tof (u_additiveref35_in p0.MinTime 0 1048576) with a84 | a84
                                           · rcases tof (u_additiveref35_in p0.MinFeed 1 p0.Feed) with a85 | a85
                                             · rcases tof (u_additiveref35_in p0.Nozzle 0 400000) with a86 | a86
                                               · simp (maxSteps := 4000000) [a67, a68, a69, a70, a71, a72, a73, a74, a75, a76, a77, a78, a79, a80, a81, a82, a83, a84, a85, a86, f1, (show ieq 2 0 = false from rfl), f2, (show ieq 2 0 = false from rfl), f8, f9, f10, f11, f12, f23, f24, f25, f26, f41, f42, f43, f44, f63, f64, f65, f66]
                                               · simp (maxSteps := 4000000) [a67, a68, a69, a70, a71, a72, a73, a74, a75, a76, a77, a78, a79, a80, a81, a82, a83, a84, a85, a86, f1, (show ieq 2 0 = false from rfl), f2, (show ieq 2 0 = false from rfl), f8, f9, f10, f11, f12, f23, f24, f25, f26, f41, f42, f43, f44, f63, f64, f65, f66]
                                             · simp (maxSteps := 4000000) [a67, a68, a69, a70, a71, a72, a73, a74, a75, a76, a77, a78, a79, a80, a81, a82, a83, a84, a85, f1, (show ieq 2 0 = false from rfl), f2, (show ieq 2 0 = false from rfl), f8, f9, f10, f11, f12, f23, f24, f25, f26, f41, f42, f43, f44, f63, f64, f65, f66]
                                           · simp (maxSteps := 4000000) [a67, a68, a69, a70, a71, a72, a73, a74, a75, a76, a77, a78, a79, a80, a81, a82, a83, a84, f1, (show ieq 2 0 = false from rfl), f2, (show ieq 2 0 = false from rfl), f8, f9, f10, f11, f12, f23, f24, f25, f26, f41, f42, f43, f44, f63, f64, f65, f66]
                                         · simp [a67, a68, a69, a70, a71, a72, a73, a74, a75, a76, a77, a78, a79, a80, a81, a82, a83] at c45
                                       · simp [a67, a68, a69, a70, a71, a72, a73, a74, a75, a76, a77, a78, a79, a80, a81, a82] at c45
                                     · simp [a67, a68, a69, a70, a71, a72, a73, a74, a75, a76, a77, a78, a79, a80, a81] at c45
                                   · simp [a67, a68, a69, a70, a71, a72, a73, a74, a75, a76, a77, a78, a79, a80] at c45
                                 · simp [a67, a68, a69, a70, a71, a72, a73, a74, a75, a76, a77, a78, a79] at c27
                               · simp [a67, a68, a69, a70, a71, a72, a73, a74, a75, a76, a77, a78] at c27
                             · simp [a67, a68, a69, a70, a71, a72, a73, a74, a75, a76, a77] at c27
                           · simp [a67, a68, a69, a70, a71, a72, a73, a74, a75, a76] at c27
                         · simp [a67, a68, a69, a70, a71, a72, a73, a74, a75] at c13
                       · simp [a67, a68, a69, a70, a71, a72, a73, a74] at c13
                     · simp [a67, a68, a69, a70, a71, a72, a73] at c13
                   · simp [a67, a68, a69, a70, a71, a72] at c13
                 · simp [a67, a68, a69, a70, a71] at c13
             · simp [a67, a68, a69] at c3
         · simp [a67] at c3

/-! additiveref35.Volume -/
attribute [simp] c82_0 c82_1 c82_2 c82_3
def t_additiveref35_Volume (p0 : Int) (p1 : api_Settings) : Option Int := (match t_additiveref35_Valid p1 with
 | none => none
 | some v3 => (if (bor (bnot v3) (bnot (u_additiveref35_in p0 0 1048576))) = true then some 0
 else some (imul .i64 (imul .i64 (imul .i64 p0 p1.Pitch) p1.Pitch) p1.Height)))
theorem t_additiveref35_Volume_ok {p0 : Int} {p1 : api_Settings} {r : Int} (h : t_additiveref35_Volume p0 p1 = some r) : FC env 82 [.int .i64 p0, .agg [.int .i64 p1.Pitch, .int .i64 p1.Height, .int .i64 p1.Walls, .int .i64 p1.Top, .int .i64 p1.Bottom, .int .i64 p1.Pattern, .int .i64 p1.Spacing, .bool p1.Support, .int .i64 p1.Reach, .int .i64 p1.Gap, .int .i64 p1.Brim, .int .i64 p1.Skirt, .int .i64 p1.Drop, .int .i64 p1.Feed, .int .i64 p1.Travel, .int .i64 p1.Retract, .int .i64 p1.MinTime, .int .i64 p1.MinFeed, .int .i64 p1.Nozzle, .int .i64 p1.Bed]] none = some (.int .i64 r, fun _ => none) := by
 unfold t_additiveref35_Volume at h
 cases h2 : t_additiveref35_Valid p1 with
 | none => (rw [h2] at h; cases h)
 | some v3 =>
  simp only [h2] at h
  have f1 := t_additiveref35_Valid_ok h2
  have f4 := u_additiveref35_in_ok p0 0 1048576
  by_cases c5 : (bor (bnot v3) (bnot (u_additiveref35_in p0 0 1048576))) = true
  · rw [if_pos c5] at h
    cases h
    refine FC_pure (lf := lf82) rfl rfl rfl ?_
    simp only [lf82, lc82]
    rcases tof v3 with a6 | a6
    · rcases tof (u_additiveref35_in p0 0 1048576) with a7 | a7
      · simp [a6, a7] at c5
      · simp (maxSteps := 4000000) [a6, a7, f1, f4]
    · simp (maxSteps := 4000000) [a6, f1, f4]
  · rw [if_neg c5] at h
    rw [Bool.not_eq_true] at c5
    cases h
    refine FC_pure (lf := lf82) rfl rfl rfl ?_
    simp only [lf82, lc82]
    rcases tof v3 with a8 | a8
    · rcases tof (u_additiveref35_in p0 0 1048576) with a9 | a9
      · simp (maxSteps := 4000000) [a8, a9, f1, f4]
      · simp [a8, a9] at c5
    · simp [a8] at c5

/-! additiveref35.Amounts -/
attribute [simp] c41_0 c41_1 c41_2 c41_3 c41_4 c41_5 c41_6 c41_7 c41_8 c41_9 c41_10 c41_11 c41_12 c41_13 c41_14 c41_15 c41_16 c41_17 c41_18 c41_19 c41_20 c41_21 c41_22 c41_23 c41_25
theorem c41_L0_u (Γ : Env) (ps : List Nat) (σ : St) : EC Γ ps 0 c41_L0 σ = EC Γ ps 0 (.seq (.seq (.reg false c41_7) (.cond (.t 18) .skip (.seq (.trim [6]) (.exit 0)))) (.seq (.blk 1 (.seq (.reg false c41_8) (.seq (.seq (.reg false c41_9) (.cond (.t 42) (.seq (.reg false c41_10) (.seq (.trim [4, 5]) .ret)) .skip)) (.seq (.seq (.reg false c41_11) (.cond (.t 44) (.reg false c41_12) .skip)) (.seq (.seq (.reg false c41_13) (.cond (.t 54) (.seq (.reg false c41_14) (.seq (.trim [4, 5]) .ret)) .skip)) (.seq (.seq (.reg false c41_15) (.cond (.t 56) (.reg false c41_16) .skip)) (.seq (.seq (.reg false c41_17) (.cond (.t 58) (.reg false c41_18) .skip)) (.seq (.reg true c41_19) (.seq (.seq (.reg false c41_20) (.cond (.t 65) (.reg false c41_21) .skip)) (.reg false c41_22)))))))))) (.reg false c41_23))) σ := rfl
attribute [simp ↓] c41_L0_u
def t_additiveref35_Amounts_L0 (k0 : (FS api_Op)) (k1 : api_Settings) (s : ((FS Int) × Int × Bool × Int)) : Option (LR ((FS Int) × Int × Bool × Int) (((FS Int) × Int) ⊕ (FS Int))) := match s with
 | (s0, s1, s2, s3) => (if (ilt s3 (flen k0)) = true then (match fget k0 s3 with
 | none => none
 | some v8 => (if (bor (band s2 (bor (ieq v8.Kind 3) (ieq v8.Kind 4))) (band (bnot s2) (ieq v8.Kind 5))) = true then some (.dn (.inl ((FS.nil : (FS Int)), 11)))
 else (if (ieq v8.Kind 3) = true then (if (igt (iadd .i64 s1 (flen v8.Cells)) 1048576) = true then some (.dn (.inl ((FS.nil : (FS Int)), 2)))
 else (if (ieq v8.Kind 4) = true then (if (ieq v8.Kind 5) = true then (match t_additiveref35_Volume (iadd .i64 s1 (flen v8.Cells)) k1 with
 | none => none
 | some v17 => (if ieq k1.Drop 0 = true then none else (if fits 8 ((flen s0) + 1) = true then some (.nx ((fsnoc s0 (iquo .i64 v17 k1.Drop)), (iadd .i64 s1 (flen v8.Cells)), false, (iadd .i64 s3 1))) else none)))
 else (match t_additiveref35_Volume (iadd .i64 s1 (flen v8.Cells)) k1 with
 | none => none
 | some v23 => (if ieq k1.Drop 0 = true then none else (if fits 8 ((flen s0) + 1) = true then some (.nx ((fsnoc s0 (isub .i64 (iquo .i64 v23 k1.Drop) k1.Retract)), (iadd .i64 s1 (flen v8.Cells)), true, (iadd .i64 s3 1))) else none))))
 else (if (ieq v8.Kind 5) = true then (match t_additiveref35_Volume (iadd .i64 s1 (flen v8.Cells)) k1 with
 | none => none
 | some v30 => (if ieq k1.Drop 0 = true then none else (if fits 8 ((flen s0) + 1) = true then some (.nx ((fsnoc s0 (iquo .i64 v30 k1.Drop)), (iadd .i64 s1 (flen v8.Cells)), false, (iadd .i64 s3 1))) else none)))
 else (match t_additiveref35_Volume (iadd .i64 s1 (flen v8.Cells)) k1 with
 | none => none
 | some v36 => (if ieq k1.Drop 0 = true then none else (if s2 = true then (if fits 8 ((flen s0) + 1) = true then some (.nx ((fsnoc s0 (isub .i64 (iquo .i64 v36 k1.Drop) k1.Retract)), (iadd .i64 s1 (flen v8.Cells)), s2, (iadd .i64 s3 1))) else none)
 else (if fits 8 ((flen s0) + 1) = true then some (.nx ((fsnoc s0 (iquo .i64 v36 k1.Drop)), (iadd .i64 s1 (flen v8.Cells)), s2, (iadd .i64 s3 1))) else none)))))))
 else (if (igt s1 1048576) = true then some (.dn (.inl ((FS.nil : (FS Int)), 2)))
 else (if (ieq v8.Kind 4) = true then (if (ieq v8.Kind 5) = true then (match t_additiveref35_Volume s1 k1 with
 | none => none
 | some v48 => (if ieq k1.Drop 0 = true then none else (if fits 8 ((flen s0) + 1) = true then some (.nx ((fsnoc s0 (iquo .i64 v48 k1.Drop)), s1, false, (iadd .i64 s3 1))) else none)))
 else (match t_additiveref35_Volume s1 k1 with
 | none => none
 | some v54 => (if ieq k1.Drop 0 = true then none else (if fits 8 ((flen s0) + 1) = true then some (.nx ((fsnoc s0 (isub .i64 (iquo .i64 v54 k1.Drop) k1.Retract)), s1, true, (iadd .i64 s3 1))) else none))))
 else (if (ieq v8.Kind 5) = true then (match t_additiveref35_Volume s1 k1 with
 | none => none
 | some v61 => (if ieq k1.Drop 0 = true then none else (if fits 8 ((flen s0) + 1) = true then some (.nx ((fsnoc s0 (iquo .i64 v61 k1.Drop)), s1, false, (iadd .i64 s3 1))) else none)))
 else (match t_additiveref35_Volume s1 k1 with
 | none => none
 | some v67 => (if ieq k1.Drop 0 = true then none else (if s2 = true then (if fits 8 ((flen s0) + 1) = true then some (.nx ((fsnoc s0 (isub .i64 (iquo .i64 v67 k1.Drop) k1.Retract)), s1, s2, (iadd .i64 s3 1))) else none)
 else (if fits 8 ((flen s0) + 1) = true then some (.nx ((fsnoc s0 (iquo .i64 v67 k1.Drop)), s1, s2, (iadd .i64 s3 1))) else none))))))))))
 else some (.dn (.inr s0)))
def t_additiveref35_Amounts_L0_st (k0 : (FS api_Op)) (k1 : api_Settings) (s : ((FS Int) × Int × Bool × Int)) : St := match s with
 | (s0, s1, s2, s3) => (fcase s0 (⟨fr [(0, encF e_api_Op k0), (3, .ptr 3 0 0), (6, .nils), (7, .int .i64 s1), (8, .bool s2), (9, .int .i64 s3)], hl [(3, .box 0 [.int .i64 k1.Pitch, .int .i64 k1.Height, .int .i64 k1.Walls, .int .i64 k1.Top, .int .i64 k1.Bottom, .int .i64 k1.Pattern, .int .i64 k1.Spacing, .bool k1.Support, .int .i64 k1.Reach, .int .i64 k1.Gap, .int .i64 k1.Brim, .int .i64 k1.Skirt, .int .i64 k1.Drop, .int .i64 k1.Feed, .int .i64 k1.Travel, .int .i64 k1.Retract, .int .i64 k1.MinTime, .int .i64 k1.MinFeed, .int .i64 k1.Nozzle, .int .i64 k1.Bed])]⟩)
  (fun l0 => ⟨fr [(0, encF e_api_Op k0), (3, .ptr 3 0 0), (6, .arr 6 0 0 l0.l.length), (7, .int .i64 s1), (8, .bool s2), (9, .int .i64 s3)], hl [(3, .box 0 [.int .i64 k1.Pitch, .int .i64 k1.Height, .int .i64 k1.Walls, .int .i64 k1.Top, .int .i64 k1.Bottom, .int .i64 k1.Pattern, .int .i64 k1.Spacing, .bool k1.Support, .int .i64 k1.Reach, .int .i64 k1.Gap, .int .i64 k1.Brim, .int .i64 k1.Skirt, .int .i64 k1.Drop, .int .i64 k1.Feed, .int .i64 k1.Travel, .int .i64 k1.Retract, .int .i64 k1.MinTime, .int .i64 k1.MinFeed, .int .i64 k1.Nozzle, .int .i64 k1.Bed]), (6, .arr 0 1 3 (cellsE e_i64 l0.l) false)]⟩))
def t_additiveref35_Amounts_L0_out (k0 : (FS api_Op)) (k1 : api_Settings) (x : (((FS Int) × Int) ⊕ (FS Int))) : LE × St := match x with
 | .inl x => (.ret, ⟨fr [(4, .nils), (5, .int .i64 x.2)], hl []⟩)
 | .inr x => (fcase x (.exit 0, ⟨fr [(6, .nils)], hl []⟩)
  (fun l0 => (.exit 0, ⟨fr [(6, .arr 6 0 0 l0.l.length)], hl [(6, .arr 0 1 3 (cellsE e_i64 l0.l) false)]⟩)))
theorem t_additiveref35_Amounts_L0_ok {k0 : (FS api_Op)} {k1 : api_Settings} {s : ((FS Int) × Int × Bool × Int)} {r : (((FS Int) × Int) ⊕ (FS Int))} (h : loopT (t_additiveref35_Amounts_L0 k0 k1) bigN s = some r) : LK env [] 0 [0, 3, 6, 7, 8, 9] c41_L0 (some (t_additiveref35_Amounts_L0_st k0 k1 s)) = some (t_additiveref35_Amounts_L0_out k0 k1 r) := loop_walk (st := t_additiveref35_Amounts_L0_st k0 k1) (out := t_additiveref35_Amounts_L0_out k0 k1) (by
 clear h s r
 rintro ⟨s0, s1, s2, s3⟩ x h
 simp only [t_additiveref35_Amounts_L0] at h
 cases e7 : s0 with
 | nil =>
  try simp only [e7, flen_nil] at h
  by_cases c8 : (ilt s3 (flen k0)) = true
  · rw [if_pos c8] at h
    cases h10 : fget k0 s3 with
    | none => (rw [h10] at h; cases h)
    | some v11 =>
     simp only [h10] at h
     have f9 := iaddr_F (e := e_api_Op) h10
     by_cases c12 : (bor (band s2 (bor (ieq v11.Kind 3) (ieq v11.Kind 4))) (band (bnot s2) (ieq v11.Kind 5))) = true
     · rw [if_pos c12] at h
       cases h
       show LK env [] 0 [0, 3, 6, 7, 8, 9] c41_L0 (some (t_additiveref35_Amounts_L0_st _ _ _)) = some (t_additiveref35_Amounts_L0_out _ _ _)
       simp only [t_additiveref35_Amounts_L0_st, t_additiveref35_Amounts_L0_out, e7]
       rw [LK_step]
       rcases tof s2 with a13 | a13
       · rcases tof (ieq v11.Kind 3) with a14 | a14
         · simp (maxSteps := 4000000) [c8, a13, a14, e7, f9]
         · rcases tof (ieq v11.Kind 4) with a15 | a15
           · simp (maxSteps := 4000000) [c8, a13, a14, a15, e7, f9]
           · simp [c8, a13, a14, a15] at c12
       · rcases tof (ieq v11.Kind 5) with a16 | a16
         · simp (maxSteps := 4000000) [c8, a13, a16, e7, f9]
         · simp [c8, a13, a16] at c12
     · rw [if_neg c12] at h
       rw [Bool.not_eq_true] at c12
       by_cases c17 : (ieq v11.Kind 3) = true
       · rw [if_pos c17] at h
         by_cases c19 : (igt (iadd .i64 s1 (flen v11.Cells)) 1048576) = true
         · rw [if_pos c19] at h
           cases h
           show LK env [] 0 [0, 3, 6, 7, 8, 9] c41_L0 (some (t_additiveref35_Amounts_L0_st _ _ _)) = some (t_additiveref35_Amounts_L0_out _ _ _)
           simp only [t_additiveref35_Amounts_L0_st, t_additiveref35_Amounts_L0_out, e7]
           rw [LK_step]
           rcases tof s2 with a20 | a20
           · simp [c8, a20, c17] at c12
           · rcases tof (ieq v11.Kind 5) with a21 | a21
             · simp [c8, a20, a21] at c12
             · simp (maxSteps := 4000000) [c8, a20, a21, c17, c19, e7, f9]
         · rw [if_neg c19] at h
           rw [Bool.not_eq_true] at c19
           by_cases c22 : (ieq v11.Kind 4) = true
           · rw [if_pos c22] at h
             by_cases c23 : (ieq v11.Kind 5) = true
             · rw [if_pos c23] at h
               cases h25 : t_additiveref35_Volume (iadd .i64 s1 (flen v11.Cells)) k1 with
               | none => (rw [h25] at h; cases h)
               | some v26 =>
                simp only [h25] at h
                have f24 := t_additiveref35_Volume_ok h25
                by_cases h27 : ieq k1.Drop 0 = true
                · rw [if_pos h27] at h; cases h
                · rw [if_neg h27] at h
                  rw [Bool.not_eq_true] at h27
                  by_cases h29 : fits 8 (0 + 1) = true
                  · rw [if_pos h29] at h
                    have f28 := fun H g0 hg y => @app_nil _ _ e_i64 _ (iquo .i64 v26 k1.Drop) 8 h29 (by decide) H g0 3 y hg
                    simp only [e_i64] at f28
                    cases h
                    show LK env [] 0 [0, 3, 6, 7, 8, 9] c41_L0 (some (t_additiveref35_Amounts_L0_st _ _ _)) = LK env [] 0 [0, 3, 6, 7, 8, 9] c41_L0 (some (t_additiveref35_Amounts_L0_st _ _ _))
                    simp only [t_additiveref35_Amounts_L0_st, e7]
                    rw [LK_step]
                    rcases tof s2 with a30 | a30
                    · simp [c8, a30, c17] at c12
                    · simp [c8, a30, c23] at c12
                  · rw [if_neg h29] at h; cases h
             · rw [if_neg c23] at h
               rw [Bool.not_eq_true] at c23
               cases h32 : t_additiveref35_Volume (iadd .i64 s1 (flen v11.Cells)) k1 with
               | none => (rw [h32] at h; cases h)
               | some v33 =>
                simp only [h32] at h
                have f31 := t_additiveref35_Volume_ok h32
                by_cases h34 : ieq k1.Drop 0 = true
                · rw [if_pos h34] at h; cases h
                · rw [if_neg h34] at h
                  rw [Bool.not_eq_true] at h34
                  by_cases h36 : fits 8 (0 + 1) = true
                  · rw [if_pos h36] at h
                    have f35 := fun H g0 hg y => @app_nil _ _ e_i64 _ (isub .i64 (iquo .i64 v33 k1.Drop) k1.Retract) 8 h36 (by decide) H g0 3 y hg
                    simp only [e_i64] at f35
                    cases h
                    show LK env [] 0 [0, 3, 6, 7, 8, 9] c41_L0 (some (t_additiveref35_Amounts_L0_st _ _ _)) = LK env [] 0 [0, 3, 6, 7, 8, 9] c41_L0 (some (t_additiveref35_Amounts_L0_st _ _ _))
                    simp only [t_additiveref35_Amounts_L0_st, e7]
                    rw [LK_step]
                    rcases tof s2 with a37 | a37
                    · simp [c8, a37, c17] at c12
                    · simp (maxSteps := 4000000) [c8, a37, c23, c17, c19, c22, e7, f9, f31, h34, f35]
                  · rw [if_neg h36] at h; cases h
           · rw [if_neg c22] at h
             rw [Bool.not_eq_true] at c22
             by_cases c38 : (ieq v11.Kind 5) = true
             · rw [if_pos c38] at h
               cases h40 : t_additiveref35_Volume (iadd .i64 s1 (flen v11.Cells)) k1 with
               | none => (rw [h40] at h; cases h)
               | some v41 =>
                simp only [h40] at h
                have f39 := t_additiveref35_Volume_ok h40
                by_cases h42 : ieq k1.Drop 0 = true
                · rw [if_pos h42] at h; cases h
                · rw [if_neg h42] at h
                  rw [Bool.not_eq_true] at h42
                  by_cases h44 : fits 8 (0 + 1) = true
                  · rw [if_pos h44] at h
                    have f43 := fun H g0 hg y => @app_nil _ _ e_i64 _ (iquo .i64 v41 k1.Drop) 8 h44 (by decide) H g0 3 y hg
                    simp only [e_i64] at f43
                    cases h
                    show LK env [] 0 [0, 3, 6, 7, 8, 9] c41_L0 (some (t_additiveref35_Amounts_L0_st _ _ _)) = LK env [] 0 [0, 3, 6, 7, 8, 9] c41_L0 (some (t_additiveref35_Amounts_L0_st _ _ _))
                    simp only [t_additiveref35_Amounts_L0_st, e7]
                    rw [LK_step]
                    rcases tof s2 with a45 | a45
                    · simp [c8, a45, c17] at c12
                    · simp [c8, a45, c38] at c12
                  · rw [if_neg h44] at h; cases h
             · rw [if_neg c38] at h
               rw [Bool.not_eq_true] at c38
               cases h47 : t_additiveref35_Volume (iadd .i64 s1 (flen v11.Cells)) k1 with
               | none => (rw [h47] at h; cases h)
               | some v48 =>
                simp only [h47] at h
                have f46 := t_additiveref35_Volume_ok h47
                by_cases h49 : ieq k1.Drop 0 = true
                · rw [if_pos h49] at h; cases h
                · rw [if_neg h49] at h
                  rw [Bool.not_eq_true] at h49
                  by_cases c50 : s2 = true
                  · rw [if_pos c50] at h
                    by_cases h52 : fits 8 (0 + 1) = true
                    · rw [if_pos h52] at h
                      have f51 := fun H g0 hg y => @app_nil _ _ e_i64 _ (isub .i64 (iquo .i64 v48 k1.Drop) k1.Retract) 8 h52 (by decide) H g0 3 y hg
                      simp only [e_i64] at f51
                      cases h
                      show LK env [] 0 [0, 3, 6, 7, 8, 9] c41_L0 (some (t_additiveref35_Amounts_L0_st _ _ _)) = LK env [] 0 [0, 3, 6, 7, 8, 9] c41_L0 (some (t_additiveref35_Amounts_L0_st _ _ _))
                      simp only [t_additiveref35_Amounts_L0_st, e7]
                      rw [LK_step]
                      simp [c8, c50, c17] at c12
                    · rw [if_neg h52] at h; cases h
                  · rw [if_neg c50] at h
                    rw [Bool.not_eq_true] at c50
                    by_cases h54 : fits 8 (0 + 1) = true
                    · rw [if_pos h54] at h
                      have f53 := fun H g0 hg y => @app_nil _ _ e_i64 _ (iquo .i64 v48 k1.Drop) 8 h54 (by decide) H g0 3 y hg
                      simp only [e_i64] at f53
                      cases h
                      show LK env [] 0 [0, 3, 6, 7, 8, 9] c41_L0 (some (t_additiveref35_Amounts_L0_st _ _ _)) = LK env [] 0 [0, 3, 6, 7, 8, 9] c41_L0 (some (t_additiveref35_Amounts_L0_st _ _ _))
                      simp only [t_additiveref35_Amounts_L0_st, e7]
                      rw [LK_step]
                      simp (maxSteps := 4000000) [c8, c50, c38, c17, c19, c22, e7, f9, f46, h49, f53]
                    · rw [if_neg h54] at h; cases h
       · rw [if_neg c17] at h
         rw [Bool.not_eq_true] at c17
         by_cases c55 : (igt s1 1048576) = true
         · rw [if_pos c55] at h
           cases h
           show LK env [] 0 [0, 3, 6, 7, 8, 9] c41_L0 (some (t_additiveref35_Amounts_L0_st _ _ _)) = some (t_additiveref35_Amounts_L0_out _ _ _)
           simp only [t_additiveref35_Amounts_L0_st, t_additiveref35_Amounts_L0_out, e7]
           rw [LK_step]
           rcases tof s2 with a56 | a56
           · rcases tof (ieq v11.Kind 4) with a57 | a57
             · simp [c8, a56, c17, a57] at c12
             · simp (maxSteps := 4000000) [c8, a56, c17, a57, c55, e7, f9]
           · rcases tof (ieq v11.Kind 5) with a58 | a58
             · simp [c8, a56, a58] at c12
             · simp (maxSteps := 4000000) [c8, a56, a58, c17, c55, e7, f9]
         · rw [if_neg c55] at h
           rw [Bool.not_eq_true] at c55
           by_cases c59 : (ieq v11.Kind 4) = true
           · rw [if_pos c59] at h
             by_cases c60 : (ieq v11.Kind 5) = true
             · rw [if_pos c60] at h
               cases h62 : t_additiveref35_Volume s1 k1 with
               | none => (rw [h62] at h; cases h)
               | some v63 =>
                simp only [h62] at h
                have f61 := t_additiveref35_Volume_ok h62
                by_cases h64 : ieq k1.Drop 0 = true
                · rw [if_pos h64] at h; cases h
                · rw [if_neg h64] at h
                  rw [Bool.not_eq_true] at h64
                  by_cases h66 : fits 8 (0 + 1) = true
                  · rw [if_pos h66] at h
                    have f65 := fun H g0 hg y => @app_nil _ _ e_i64 _ (iquo .i64 v63 k1.Drop) 8 h66 (by decide) H g0 3 y hg
                    simp only [e_i64] at f65
                    cases h
                    show LK env [] 0 [0, 3, 6, 7, 8, 9] c41_L0 (some (t_additiveref35_Amounts_L0_st _ _ _)) = LK env [] 0 [0, 3, 6, 7, 8, 9] c41_L0 (some (t_additiveref35_Amounts_L0_st _ _ _))
                    simp only [t_additiveref35_Amounts_L0_st, e7]
                    rw [LK_step]
                    rcases tof s2 with a67 | a67
                    · simp [c8, a67, c17, c59] at c12
                    · simp [c8, a67, c60] at c12
                  · rw [if_neg h66] at h; cases h
             · rw [if_neg c60] at h
               rw [Bool.not_eq_true] at c60
               cases h69 : t_additiveref35_Volume s1 k1 with
               | none => (rw [h69] at h; cases h)
               | some v70 =>
                simp only [h69] at h
                have f68 := t_additiveref35_Volume_ok h69
                by_cases h71 : ieq k1.Drop 0 = true
                · rw [if_pos h71] at h; cases h
                · rw [if_neg h71] at h
                  rw [Bool.not_eq_true] at h71
                  by_cases h73 : fits 8 (0 + 1) = true
                  · rw [if_pos h73] at h
                    have f72 := fun H g0 hg y => @app_nil _ _ e_i64 _ (isub .i64 (iquo .i64 v70 k1.Drop) k1.Retract) 8 h73 (by decide) H g0 3 y hg
                    simp only [e_i64] at f72
                    cases h
                    show LK env [] 0 [0, 3, 6, 7, 8, 9] c41_L0 (some (t_additiveref35_Amounts_L0_st _ _ _)) = LK env [] 0 [0, 3, 6, 7, 8, 9] c41_L0 (some (t_additiveref35_Amounts_L0_st _ _ _))
                    simp only [t_additiveref35_Amounts_L0_st, e7]
                    rw [LK_step]
                    rcases tof s2 with a74 | a74
                    · simp [c8, a74, c17, c59] at c12
                    · simp (maxSteps := 4000000) [c8, a74, c60, c17, c55, c59, e7, f9, f68, h71, f72]
                  · rw [if_neg h73] at h; cases h
           · rw [if_neg c59] at h
             rw [Bool.not_eq_true] at c59
             by_cases c75 : (ieq v11.Kind 5) = true
             · rw [if_pos c75] at h
               cases h77 : t_additiveref35_Volume s1 k1 with
               | none => (rw [h77] at h; cases h)
               | some v78 =>
                simp only [h77] at h
                have f76 := t_additiveref35_Volume_ok h77
                by_cases h79 : ieq k1.Drop 0 = true
                · rw [if_pos h79] at h; cases h
                · rw [if_neg h79] at h
                  rw [Bool.not_eq_true] at h79
                  by_cases h81 : fits 8 (0 + 1) = true
                  · rw [if_pos h81] at h
                    have f80 := fun H g0 hg y => @app_nil _ _ e_i64 _ (iquo .i64 v78 k1.Drop) 8 h81 (by decide) H g0 3 y hg
                    simp only [e_i64] at f80
                    cases h
                    show LK env [] 0 [0, 3, 6, 7, 8, 9] c41_L0 (some (t_additiveref35_Amounts_L0_st _ _ _)) = LK env [] 0 [0, 3, 6, 7, 8, 9] c41_L0 (some (t_additiveref35_Amounts_L0_st _ _ _))
                    simp only [t_additiveref35_Amounts_L0_st, e7]
                    rw [LK_step]
                    rcases tof s2 with a82 | a82
                    · simp (maxSteps := 4000000) [c8, a82, c17, c59, c55, c75, e7, f9, f76, h79, f80]
                    · simp [c8, a82, c75] at c12
                  · rw [if_neg h81] at h; cases h
             · rw [if_neg c75] at h
               rw [Bool.not_eq_true] at c75
               cases h84 : t_additiveref35_Volume s1 k1 with
               | none => (rw [h84] at h; cases h)
               | some v85 =>
                simp only [h84] at h
                have f83 := t_additiveref35_Volume_ok h84
                by_cases h86 : ieq k1.Drop 0 = true
                · rw [if_pos h86] at h; cases h
                · rw [if_neg h86] at h
                  rw [Bool.not_eq_true] at h86
                  by_cases c87 : s2 = true
                  · rw [if_pos c87] at h
                    by_cases h89 : fits 8 (0 + 1) = true
                    · rw [if_pos h89] at h
                      have f88 := fun H g0 hg y => @app_nil _ _ e_i64 _ (isub .i64 (iquo .i64 v85 k1.Drop) k1.Retract) 8 h89 (by decide) H g0 3 y hg
                      simp only [e_i64] at f88
                      cases h
                      show LK env [] 0 [0, 3, 6, 7, 8, 9] c41_L0 (some (t_additiveref35_Amounts_L0_st _ _ _)) = LK env [] 0 [0, 3, 6, 7, 8, 9] c41_L0 (some (t_additiveref35_Amounts_L0_st _ _ _))
                      simp only [t_additiveref35_Amounts_L0_st, e7]
                      rw [LK_step]
                      simp (maxSteps := 4000000) [c8, c87, c17, c59, c55, c75, e7, f9, f83, h86, f88]
                    · rw [if_neg h89] at h; cases h
                  · rw [if_neg c87] at h
                    rw [Bool.not_eq_true] at c87
                    by_cases h91 : fits 8 (0 + 1) = true
                    · rw [if_pos h91] at h
                      have f90 := fun H g0 hg y => @app_nil _ _ e_i64 _ (iquo .i64 v85 k1.Drop) 8 h91 (by decide) H g0 3 y hg
                      simp only [e_i64] at f90
                      cases h
                      show LK env [] 0 [0, 3, 6, 7, 8, 9] c41_L0 (some (t_additiveref35_Amounts_L0_st _ _ _)) = LK env [] 0 [0, 3, 6, 7, 8, 9] c41_L0 (some (t_additiveref35_Amounts_L0_st _ _ _))
                      simp only [t_additiveref35_Amounts_L0_st, e7]
                      rw [LK_step]
                      simp (maxSteps := 4000000) [c8, c87, c75, c17, c55, c59, e7, f9, f83, h86, f90]
                    · rw [if_neg h91] at h; cases h
  · rw [if_neg c8] at h
    rw [Bool.not_eq_true] at c8
    cases h
    show LK env [] 0 [0, 3, 6, 7, 8, 9] c41_L0 (some (t_additiveref35_Amounts_L0_st _ _ _)) = some (t_additiveref35_Amounts_L0_out _ _ _)
    simp only [t_additiveref35_Amounts_L0_st, t_additiveref35_Amounts_L0_out, e7]
    rw [LK_step]
    simp (maxSteps := 4000000) [c8, e7]
 | lst l6 =>
  try simp only [e7] at h
  by_cases c92 : (ilt s3 (flen k0)) = true
  · rw [if_pos c92] at h
    cases h94 : fget k0 s3 with
    | none => (rw [h94] at h; cases h)
    | some v95 =>
     simp only [h94] at h
     have f93 := iaddr_F (e := e_api_Op) h94
     by_cases c96 : (bor (band s2 (bor (ieq v95.Kind 3) (ieq v95.Kind 4))) (band (bnot s2) (ieq v95.Kind 5))) = true
     · rw [if_pos c96] at h
       cases h
       show LK env [] 0 [0, 3, 6, 7, 8, 9] c41_L0 (some (t_additiveref35_Amounts_L0_st _ _ _)) = some (t_additiveref35_Amounts_L0_out _ _ _)
       simp only [t_additiveref35_Amounts_L0_st, t_additiveref35_Amounts_L0_out, e7]
       rw [LK_step]
       rcases tof s2 with a97 | a97
       · rcases tof (ieq v95.Kind 3) with a98 | a98
         · simp (maxSteps := 4000000) [c92, a97, a98, e7, f93]
         · rcases tof (ieq v95.Kind 4) with a99 | a99
           · simp (maxSteps := 4000000) [c92, a97, a98, a99, e7, f93]
           · simp [c92, a97, a98, a99] at c96
       · rcases tof (ieq v95.Kind 5) with a100 | a100
         · simp (maxSteps := 4000000) [c92, a97, a100, e7, f93]
         · simp [c92, a97, a100] at c96
     · rw [if_neg c96] at h
       rw [Bool.not_eq_true] at c96
       by_cases c101 : (ieq v95.Kind 3) = true
       · rw [if_pos c101] at h
         by_cases c103 : (igt (iadd .i64 s1 (flen v95.Cells)) 1048576) = true
         · rw [if_pos c103] at h
           cases h
           show LK env [] 0 [0, 3, 6, 7, 8, 9] c41_L0 (some (t_additiveref35_Amounts_L0_st _ _ _)) = some (t_additiveref35_Amounts_L0_out _ _ _)
           simp only [t_additiveref35_Amounts_L0_st, t_additiveref35_Amounts_L0_out, e7]
           rw [LK_step]
           rcases tof s2 with a104 | a104
           · simp [c92, a104, c101] at c96
           · rcases tof (ieq v95.Kind 5) with a105 | a105
             · simp [c92, a104, a105] at c96
             · simp (maxSteps := 4000000) [c92, a104, a105, c101, c103, e7, f93]
         · rw [if_neg c103] at h
           rw [Bool.not_eq_true] at c103
           by_cases c106 : (ieq v95.Kind 4) = true
           · rw [if_pos c106] at h
             by_cases c107 : (ieq v95.Kind 5) = true
             · rw [if_pos c107] at h
               cases h109 : t_additiveref35_Volume (iadd .i64 s1 (flen v95.Cells)) k1 with
               | none => (rw [h109] at h; cases h)
               | some v110 =>
                simp only [h109] at h
                have f108 := t_additiveref35_Volume_ok h109
                by_cases h111 : ieq k1.Drop 0 = true
                · rw [if_pos h111] at h; cases h
                · rw [if_neg h111] at h
                  rw [Bool.not_eq_true] at h111
                  by_cases h113 : fits 8 ((flen (FS.lst l6)) + 1) = true
                  · rw [if_pos h113] at h
                    have f112 := fun g0 H y => @app_row1 _ _ e_i64 _ (FS.lst l6) (iquo .i64 v110 k1.Drop) 8 h113 (by decide) g0 H 6 0 3 y
                    simp only [e_i64] at f112
                    cases h
                    show LK env [] 0 [0, 3, 6, 7, 8, 9] c41_L0 (some (t_additiveref35_Amounts_L0_st _ _ _)) = LK env [] 0 [0, 3, 6, 7, 8, 9] c41_L0 (some (t_additiveref35_Amounts_L0_st _ _ _))
                    simp only [t_additiveref35_Amounts_L0_st, e7]
                    rw [LK_step]
                    rcases tof s2 with a114 | a114
                    · simp [c92, a114, c101] at c96
                    · simp [c92, a114, c107] at c96
                  · rw [if_neg h113] at h; cases h
             · rw [if_neg c107] at h
               rw [Bool.not_eq_true] at c107
               cases h116 : t_additiveref35_Volume (iadd .i64 s1 (flen v95.Cells)) k1 with
               | none => (rw [h116] at h; cases h)
               | some v117 =>
                simp only [h116] at h
                have f115 := t_additiveref35_Volume_ok h116
                by_cases h118 : ieq k1.Drop 0 = true
                · rw [if_pos h118] at h; cases h
                · rw [if_neg h118] at h
                  rw [Bool.not_eq_true] at h118
                  by_cases h120 : fits 8 ((flen (FS.lst l6)) + 1) = true
                  · rw [if_pos h120] at h
                    have f119 := fun g0 H y => @app_row1 _ _ e_i64 _ (FS.lst l6) (isub .i64 (iquo .i64 v117 k1.Drop) k1.Retract) 8 h120 (by decide) g0 H 6 0 3 y
                    simp only [e_i64] at f119
                    cases h
                    show LK env [] 0 [0, 3, 6, 7, 8, 9] c41_L0 (some (t_additiveref35_Amounts_L0_st _ _ _)) = LK env [] 0 [0, 3, 6, 7, 8, 9] c41_L0 (some (t_additiveref35_Amounts_L0_st _ _ _))
                    simp only [t_additiveref35_Amounts_L0_st, e7]
                    rw [LK_step]
                    rcases tof s2 with a121 | a121
                    · simp [c92, a121, c101] at c96
                    · simp (maxSteps := 4000000) [c92, a121, c107, c101, c103, c106, e7, f93, f115, h118, f119]
                  · rw [if_neg h120] at h; cases h
           · rw [if_neg c106] at h
             rw [Bool.not_eq_true] at c106
             by_cases c122 : (ieq v95.Kind 5) = true
             · rw [if_pos c122] at h
               cases h124 : t_additiveref35_Volume (iadd .i64 s1 (flen v95.Cells)) k1 with
               | none => (rw [h124] at h; cases h)
               | some v125 =>
                simp only [h124] at h
                have f123 := t_additiveref35_Volume_ok h124
                by_cases h126 : ieq k1.Drop 0 = true
                · rw [if_pos h126] at h; cases h
                · rw [if_neg h126] at h
                  rw [Bool.not_eq_true] at h126
                  by_cases h128 : fits 8 ((flen (FS.lst l6)) + 1) = true
                  · rw [if_pos h128] at h
                    have f127 := fun g0 H y => @app_row1 _ _ e_i64 _ (FS.lst l6) (iquo .i64 v125 k1.Drop) 8 h128 (by decide) g0 H 6 0 3 y
                    simp only [e_i64] at f127
                    cases h
                    show LK env [] 0 [0, 3, 6, 7, 8, 9] c41_L0 (some (t_additiveref35_Amounts_L0_st _ _ _)) = LK env [] 0 [0, 3, 6, 7, 8, 9] c41_L0 (some (t_additiveref35_Amounts_L0_st _ _ _))
                    simp only [t_additiveref35_Amounts_L0_st, e7]
                    rw [LK_step]
                    rcases tof s2 with a129 | a129
                    · simp [c92, a129, c101] at c96
                    · simp [c92, a129, c122] at c96
                  · rw [if_neg h128] at h; cases h
             · rw [if_neg c122] at h
               rw [Bool.not_eq_true] at c122
               cases h131 : t_additiveref35_Volume (iadd .i64 s1 (flen v95.Cells)) k1 with
               | none => (rw [h131] at h; cases h)
               | some v132 =>
                simp only [h131] at h
                have f130 := t_additiveref35_Volume_ok h131
                by_cases h133 : ieq k1.Drop 0 = true
                · rw [if_pos h133] at h; cases h
                · rw [if_neg h133] at h
                  rw [Bool.not_eq_true] at h133
                  by_cases c134 : s2 = true
                  · rw [if_pos c134] at h
                    by_cases h136 : fits 8 ((flen (FS.lst l6)) + 1) = true
                    · rw [if_pos h136] at h
                      have f135 := fun g0 H y => @app_row1 _ _ e_i64 _ (FS.lst l6) (isub .i64 (iquo .i64 v132 k1.Drop) k1.Retract) 8 h136 (by decide) g0 H 6 0 3 y
                      simp only [e_i64] at f135
                      cases h
                      show LK env [] 0 [0, 3, 6, 7, 8, 9] c41_L0 (some (t_additiveref35_Amounts_L0_st _ _ _)) = LK env [] 0 [0, 3, 6, 7, 8, 9] c41_L0 (some (t_additiveref35_Amounts_L0_st _ _ _))
                      simp only [t_additiveref35_Amounts_L0_st, e7]
                      rw [LK_step]
                      simp [c92, c134, c101] at c96
                    · rw [if_neg h136] at h; cases h
                  · rw [if_neg c134] at h
                    rw [Bool.not_eq_true] at c134
                    by_cases h138 : fits 8 ((flen (FS.lst l6)) + 1) = true
                    · rw [if_pos h138] at h
                      have f137 := fun g0 H y => @app_row1 _ _ e_i64 _ (FS.lst l6) (iquo .i64 v132 k1.Drop) 8 h138 (by decide) g0 H 6 0 3 y
                      simp only [e_i64] at f137
                      cases h
                      show LK env [] 0 [0, 3, 6, 7, 8, 9] c41_L0 (some (t_additiveref35_Amounts_L0_st _ _ _)) = LK env [] 0 [0, 3, 6, 7, 8, 9] c41_L0 (some (t_additiveref35_Amounts_L0_st _ _ _))
                      simp only [t_additiveref35_Amounts_L0_st, e7]
                      rw [LK_step]
                      simp (maxSteps := 4000000) [c92, c134, c122, c101, c103, c106, e7, f93, f130, h133, f137]
                    · rw [if_neg h138] at h; cases h
       · rw [if_neg c101] at h
         rw [Bool.not_eq_true] at c101
         by_cases c139 : (igt s1 1048576) = true
         · rw [if_pos c139] at h
           cases h
           show LK env [] 0 [0, 3, 6, 7, 8, 9] c41_L0 (some (t_additiveref35_Amounts_L0_st _ _ _)) = some (t_additiveref35_Amounts_L0_out _ _ _)
           simp only [t_additiveref35_Amounts_L0_st, t_additiveref35_Amounts_L0_out, e7]
           rw [LK_step]
           rcases tof s2 with a140 | a140
           · rcases tof (ieq v95.Kind 4) with a141 | a141
             · simp [c92, a140, c101, a141] at c96
             · simp (maxSteps := 4000000) [c92, a140, c101, a141, c139, e7, f93]
           · rcases tof (ieq v95.Kind 5) with a142 | a142
             · simp [c92, a140, a142] at c96
             · simp (maxSteps := 4000000) [c92, a140, a142, c101, c139, e7, f93]
         · rw [if_neg c139] at h
           rw [Bool.not_eq_true] at c139
           by_cases c143 : (ieq v95.Kind 4) = true
           · rw [if_pos c143] at h
             by_cases c144 : (ieq v95.Kind 5) = true
             · rw [if_pos c144] at h
               cases h146 : t_additiveref35_Volume s1 k1 with
               | none => (rw [h146] at h; cases h)
               | some v147 =>
                simp only [h146] at h
                have f145 := t_additiveref35_Volume_ok h146
                by_cases h148 : ieq k1.Drop 0 = true
                · rw [if_pos h148] at h; cases h
                · rw [if_neg h148] at h
                  rw [Bool.not_eq_true] at h148
                  by_cases h150 : fits 8 ((flen (FS.lst l6)) + 1) = true
                  · rw [if_pos h150] at h
                    have f149 := fun g0 H y => @app_row1 _ _ e_i64 _ (FS.lst l6) (iquo .i64 v147 k1.Drop) 8 h150 (by decide) g0 H 6 0 3 y
                    simp only [e_i64] at f149
                    cases h
                    show LK env [] 0 [0, 3, 6, 7, 8, 9] c41_L0 (some (t_additiveref35_Amounts_L0_st _ _ _)) = LK env [] 0 [0, 3, 6, 7, 8, 9] c41_L0 (some (t_additiveref35_Amounts_L0_st _ _ _))
                    simp only [t_additiveref35_Amounts_L0_st, e7]
                    rw [LK_step]
                    rcases tof s2 with a151 | a151
                    · simp [c92, a151, c101, c143] at c96
                    · simp [c92, a151, c144] at c96
                  · rw [if_neg h150] at h; cases h
             · rw [if_neg c144] at h
               rw [Bool.not_eq_true] at c144
               cases h153 : t_additiveref35_Volume s1 k1 with
               | none => (rw [h153] at h; cases h)
               | some v154 =>
                simp only [h153] at h
                have f152 := t_additiveref35_Volume_ok h153
                by_cases h155 : ieq k1.Drop 0 = true
                · rw [if_pos h155] at h; cases h
                · rw [if_neg h155] at h
                  rw [Bool.not_eq_true] at h155
                  by_cases h157 : fits 8 ((flen (FS.lst l6)) + 1) = true
                  · rw [if_pos h157] at h
                    have f156 := fun g0 H y => @app_row1 _ _ e_i64 _ (FS.lst l6) (isub .i64 (iquo .i64 v154 k1.Drop) k1.Retract) 8 h157 (by decide) g0 H 6 0 3 y
                    simp only [e_i64] at f156
                    cases h
                    show LK env [] 0 [0, 3, 6, 7, 8, 9] c41_L0 (some (t_additiveref35_Amounts_L0_st _ _ _)) = LK env [] 0 [0, 3, 6, 7, 8, 9] c41_L0 (some (t_additiveref35_Amounts_L0_st _ _ _))
                    simp only [t_additiveref35_Amounts_L0_st, e7]
                    rw [LK_step]
                    rcases tof s2 with a158 | a158
                    · simp [c92, a158, c101, c143] at c96
                    · simp (maxSteps := 4000000) [c92, a158, c144, c101, c139, c143, e7, f93, f152, h155, f156]
                  · rw [if_neg h157] at h; cases h
           · rw [if_neg c143] at h
             rw [Bool.not_eq_true] at c143
             by_cases c159 : (ieq v95.Kind 5) = true
             · rw [if_pos c159] at h
               cases h161 : t_additiveref35_Volume s1 k1 with
               | none => (rw [h161] at h; cases h)
               | some v162 =>
                simp only [h161] at h
                have f160 := t_additiveref35_Volume_ok h161
                by_cases h163 : ieq k1.Drop 0 = true
                · rw [if_pos h163] at h; cases h
                · rw [if_neg h163] at h
                  rw [Bool.not_eq_true] at h163
                  by_cases h165 : fits 8 ((flen (FS.lst l6)) + 1) = true
                  · rw [if_pos h165] at h
                    have f164 := fun g0 H y => @app_row1 _ _ e_i64 _ (FS.lst l6) (iquo .i64 v162 k1.Drop) 8 h165 (by decide) g0 H 6 0 3 y
                    simp only [e_i64] at f164
                    cases h
                    show LK env [] 0 [0, 3, 6, 7, 8, 9] c41_L0 (some (t_additiveref35_Amounts_L0_st _ _ _)) = LK env [] 0 [0, 3, 6, 7, 8, 9] c41_L0 (some (t_additiveref35_Amounts_L0_st _ _ _))
                    simp only [t_additiveref35_Amounts_L0_st, e7]
                    rw [LK_step]
                    rcases tof s2 with a166 | a166
                    · simp (maxSteps := 4000000) [c92, a166, c101, c143, c139, c159, e7, f93, f160, h163, f164]
                    · simp [c92, a166, c159] at c96
                  · rw [if_neg h165] at h; cases h
             · rw [if_neg c159] at h
               rw [Bool.not_eq_true] at c159
               cases h168 : t_additiveref35_Volume s1 k1 with
               | none => (rw [h168] at h; cases h)
               | some v169 =>
                simp only [h168] at h
                have f167 := t_additiveref35_Volume_ok h168
                by_cases h170 : ieq k1.Drop 0 = true
                · rw [if_pos h170] at h; cases h
                · rw [if_neg h170] at h
                  rw [Bool.not_eq_true] at h170
                  by_cases c171 : s2 = true
                  · rw [if_pos c171] at h
                    by_cases h173 : fits 8 ((flen (FS.lst l6)) + 1) = true
                    · rw [if_pos h173] at h
                      have f172 := fun g0 H y => @app_row1 _ _ e_i64 _ (FS.lst l6) (isub .i64 (iquo .i64 v169 k1.Drop) k1.Retract) 8 h173 (by decide) g0 H 6 0 3 y
                      simp only [e_i64] at f172
                      cases h
                      show LK env [] 0 [0, 3, 6, 7, 8, 9] c41_L0 (some (t_additiveref35_Amounts_L0_st _ _ _)) = LK env [] 0 [0, 3, 6, 7, 8, 9] c41_L0 (some (t_additiveref35_Amounts_L0_st _ _ _))
                      simp only [t_additiveref35_Amounts_L0_st, e7]
                      rw [LK_step]
                      simp (maxSteps := 4000000) [c92, c171, c101, c143, c139, c159, e7, f93, f167, h170, f172]
                    · rw [if_neg h173] at h; cases h
                  · rw [if_neg c171] at h
                    rw [Bool.not_eq_true] at c171
                    by_cases h175 : fits 8 ((flen (FS.lst l6)) + 1) = true
                    · rw [if_pos h175] at h
                      have f174 := fun g0 H y => @app_row1 _ _ e_i64 _ (FS.lst l6) (iquo .i64 v169 k1.Drop) 8 h175 (by decide) g0 H 6 0 3 y
                      simp only [e_i64] at f174
                      cases h
                      show LK env [] 0 [0, 3, 6, 7, 8, 9] c41_L0 (some (t_additiveref35_Amounts_L0_st _ _ _)) = LK env [] 0 [0, 3, 6, 7, 8, 9] c41_L0 (some (t_additiveref35_Amounts_L0_st _ _ _))
                      simp only [t_additiveref35_Amounts_L0_st, e7]
                      rw [LK_step]
                      simp (maxSteps := 4000000) [c92, c171, c159, c101, c139, c143, e7, f93, f167, h170, f174]
                    · rw [if_neg h175] at h; cases h
  · rw [if_neg c92] at h
    rw [Bool.not_eq_true] at c92
    cases h
    show LK env [] 0 [0, 3, 6, 7, 8, 9] c41_L0 (some (t_additiveref35_Amounts_L0_st _ _ _)) = some (t_additiveref35_Amounts_L0_out _ _ _)
    simp only [t_additiveref35_Amounts_L0_st, t_additiveref35_Amounts_L0_out, e7]
    rw [LK_step]
    simp (maxSteps := 4000000) [c92, e7]) bigN s r h
def t_additiveref35_Amounts (p0 : (FS api_Op)) (p1 : api_Settings) : Option ((FS Int) × Int) := (match t_additiveref35_Valid p1 with
 | none => none
 | some v3 => (if (bnot v3) = true then some ((FS.nil : (FS Int)), 1)
 else (match loopT (t_additiveref35_Amounts_L0 p0 p1) bigN ((FS.nil : (FS Int)), 0, false, 0) with
 | none => none
 | some v75 => (match v75 with
 | .inl v75x => some ((FS.nil : (FS Int)), v75x.2)
 | .inr v75x => some (v75x, 0)))))
theorem t_additiveref35_Amounts_ok {p0 : (FS api_Op)} {p1 : api_Settings} {r : ((FS Int) × Int)} (h : t_additiveref35_Amounts p0 p1 = some r) : FC env 41 [encF e_api_Op p0, .agg [.int .i64 p1.Pitch, .int .i64 p1.Height, .int .i64 p1.Walls, .int .i64 p1.Top, .int .i64 p1.Bottom, .int .i64 p1.Pattern, .int .i64 p1.Spacing, .bool p1.Support, .int .i64 p1.Reach, .int .i64 p1.Gap, .int .i64 p1.Brim, .int .i64 p1.Skirt, .int .i64 p1.Drop, .int .i64 p1.Feed, .int .i64 p1.Travel, .int .i64 p1.Retract, .int .i64 p1.MinTime, .int .i64 p1.MinFeed, .int .i64 p1.Nozzle, .int .i64 p1.Bed]] none = some (.tup [encF e_i64 r.1, .int .i64 r.2], fun _ => none) := by
 unfold t_additiveref35_Amounts at h
 cases h2 : t_additiveref35_Valid p1 with
 | none => (rw [h2] at h; cases h)
 | some v3 =>
  simp only [h2] at h
  have f1 := t_additiveref35_Valid_ok h2
  by_cases c4 : (bnot v3) = true
  · rw [if_pos c4] at h
    cases h
    refine FC_pure (lf := lf41) rfl rfl rfl ?_
    simp only [lf41, lc41]
    rcases tof v3 with a5 | a5
    · simp [a5] at c4
    · simp (maxSteps := 4000000) [a5, f1, snap_tupE, tupS, snap7_int, snap7_bool, snap7_str, snap7_nils, snap7_agg]
  · rw [if_neg c4] at h
    rw [Bool.not_eq_true] at c4
    cases h176 : loopT (t_additiveref35_Amounts_L0 p0 p1) bigN ((FS.nil : (FS Int)), 0, false, 0) with
    | none => (rw [h176] at h; cases h)
    | some v177 =>
     simp only [h176] at h
     have f178 := t_additiveref35_Amounts_L0_ok h176
     cases v177 with
     | inl v177x =>
      try simp only at h
      simp only [t_additiveref35_Amounts_L0_st, t_additiveref35_Amounts_L0_out, fset_len] at f178
      try simp only [fcase_nil, fcase_lst, fcase_fsnoc, fcase_fapp, fcase_fset, fcase_frep, fcase_flit, fcase_flst] at f178
      cases h
      refine FC_pure (lf := lf41) rfl rfl rfl ?_
      simp only [lf41, lc41]
      rcases tof v3 with a179 | a179
      · try simp only [a179] at f178
        simp (maxSteps := 4000000) [a179, f1, f178, snap_tupE, tupS, snap7_int, snap7_bool, snap7_str, snap7_nils, snap7_agg]
      · simp [a179] at c4
     | inr v177x =>
      try simp only at h
      simp only [t_additiveref35_Amounts_L0_st, t_additiveref35_Amounts_L0_out, fset_len] at f178
      cases e181 : v177x with
      | nil =>
       try simp only [e181, flen_nil] at h
       simp only [e181, flen_nil, fcase_nil, fcase_lst] at f178
       cases h
       refine FC_pure (lf := lf41) rfl rfl rfl ?_
       simp only [lf41, lc41]
       rcases tof v3 with a182 | a182
       · try simp only [a182] at f178
         simp (maxSteps := 4000000) [a182, f1, f178, e181, snap_tupE, tupS, snap7_int, snap7_bool, snap7_str, snap7_nils, snap7_agg]
       · simp [a182] at c4
      | lst l180 =>
       try simp only [e181] at h
       simp only [e181, flen_nil, fcase_nil, fcase_lst] at f178
       cases h
       refine FC_pure (lf := lf41) rfl rfl rfl ?_
       simp only [lf41, lc41]
       rcases tof v3 with a183 | a183
       · try simp only [a183] at f178
         simp (maxSteps := 4000000) [a183, f1, f178, e181, snap_row7 (e := e_i64) (el := 3) (fz := false), snap_tupE, tupS, snap7_int, snap7_bool, snap7_str, snap7_nils, snap7_agg]
       · simp [a183] at c4

/-! additivelaw40.EmitValid -/
attribute [simp] c12_0 c12_1 c12_2 c12_3 c12_4 c12_5 c12_6 c12_7 c12_8 c12_9 c12_10 c12_11 c12_12 c12_13 c12_14 c12_15 c12_16 c12_17 c12_19 c12_20
theorem c12_L0_u (Γ : Env) (ps : List Nat) (σ : St) : EC Γ ps 0 c12_L0 σ = EC Γ ps 0 (.seq (.seq (.reg false c12_8) (.cond (.t 31) .skip (.seq (.trim [0, 3, 8]) (.exit 0)))) (.seq (.blk 1 (.seq (.seq (.reg false c12_9) (.cond (.t 39) (.seq (.reg false c12_10) (.seq (.trim [4]) .ret)) .skip)) (.seq (.seq (.reg false c12_11) (.cond (.t 46) (.seq (.seq (.reg false c12_12) (.cond (.t 53) (.seq (.reg false c12_13) (.seq (.trim [4]) .ret)) .skip)) (.reg false c12_14)) .skip)) (.seq (.reg false c12_15) (.cond (.t 65) (.reg false c12_16) .skip))))) (.reg false c12_17))) σ := rfl
attribute [simp ↓] c12_L0_u
def t_additivelaw40_EmitValid_L0 (k0 : (FS api_Op)) (k1 : api_Settings) (k2 : (FS api_Cmd)) (s : (Int × Int × Int)) : Option (LR (Int × Int × Int) (Bool ⊕ Int)) := match s with
 | (s0, s1, s2) => (if (ilt s2 (flen k2)) = true then (match fget k2 s2 with
 | none => none
 | some v12 => (match t_additiveref39_Valid v12 with
 | none => none
 | some v15 => (if (bnot v15) = true then some (.dn (.inl false))
 else (if (ine (iand .i64 v12.Has 16) 0) = true then (if (ieq v12.F s0) = true then some (.dn (.inl false))
 else (if (ine (iand .i64 v12.Has 8) 0) = true then some (.nx (v12.F, v12.E, (iadd .i64 s2 1)))
 else some (.nx (v12.F, s1, (iadd .i64 s2 1)))))
 else (if (ine (iand .i64 v12.Has 8) 0) = true then some (.nx (s0, v12.E, (iadd .i64 s2 1)))
 else some (.nx (s0, s1, (iadd .i64 s2 1))))))))
 else some (.dn (.inr s1)))
def t_additivelaw40_EmitValid_L0_st (k0 : (FS api_Op)) (k1 : api_Settings) (k2 : (FS api_Cmd)) (s : (Int × Int × Int)) : St := match s with
 | (s0, s1, s2) => ⟨fr [(0, encF e_api_Op k0), (3, .ptr 3 0 0), (5, encF e_api_Cmd k2), (7, .int .i64 s0), (8, .int .i64 s1), (9, .int .i64 s2)], hl [(3, .box 0 [.int .i64 k1.Pitch, .int .i64 k1.Height, .int .i64 k1.Walls, .int .i64 k1.Top, .int .i64 k1.Bottom, .int .i64 k1.Pattern, .int .i64 k1.Spacing, .bool k1.Support, .int .i64 k1.Reach, .int .i64 k1.Gap, .int .i64 k1.Brim, .int .i64 k1.Skirt, .int .i64 k1.Drop, .int .i64 k1.Feed, .int .i64 k1.Travel, .int .i64 k1.Retract, .int .i64 k1.MinTime, .int .i64 k1.MinFeed, .int .i64 k1.Nozzle, .int .i64 k1.Bed])]⟩
def t_additivelaw40_EmitValid_L0_out (k0 : (FS api_Op)) (k1 : api_Settings) (k2 : (FS api_Cmd)) (x : (Bool ⊕ Int)) : LE × St := match x with
 | .inl x => (.ret, ⟨fr [(4, .bool x)], hl []⟩)
 | .inr x => (.exit 0, ⟨fr [(0, encF e_api_Op k0), (3, .ptr 3 0 0), (8, .int .i64 x)], hl [(3, .box 0 [.int .i64 k1.Pitch, .int .i64 k1.Height, .int .i64 k1.Walls, .int .i64 k1.Top, .int .i64 k1.Bottom, .int .i64 k1.Pattern, .int .i64 k1.Spacing, .bool k1.Support, .int .i64 k1.Reach, .int .i64 k1.Gap, .int .i64 k1.Brim, .int .i64 k1.Skirt, .int .i64 k1.Drop, .int .i64 k1.Feed, .int .i64 k1.Travel, .int .i64 k1.Retract, .int .i64 k1.MinTime, .int .i64 k1.MinFeed, .int .i64 k1.Nozzle, .int .i64 k1.Bed])]⟩)
theorem t_additivelaw40_EmitValid_L0_ok {k0 : (FS api_Op)} {k1 : api_Settings} {k2 : (FS api_Cmd)} {s : (Int × Int × Int)} {r : (Bool ⊕ Int)} (h : loopT (t_additivelaw40_EmitValid_L0 k0 k1 k2) bigN s = some r) : LK env [] 0 [0, 3, 5, 7, 8, 9] c12_L0 (some (t_additivelaw40_EmitValid_L0_st k0 k1 k2 s)) = some (t_additivelaw40_EmitValid_L0_out k0 k1 k2 r) := loop_walk (st := t_additivelaw40_EmitValid_L0_st k0 k1 k2) (out := t_additivelaw40_EmitValid_L0_out k0 k1 k2) (by
 clear h s r
 rintro ⟨s0, s1, s2⟩ x h
 simp only [t_additivelaw40_EmitValid_L0] at h
 by_cases c10 : (ilt s2 (flen k2)) = true
 · rw [if_pos c10] at h
   cases h12 : fget k2 s2 with
   | none => (rw [h12] at h; cases h)
   | some v13 =>
    simp only [h12] at h
    have f11 := iaddr_F (e := e_api_Cmd) h12
    cases h15 : t_additiveref39_Valid v13 with
    | none => (rw [h15] at h; cases h)
    | some v16 =>
     simp only [h15] at h
     have f14 := t_additiveref39_Valid_ok h15
     by_cases c17 : (bnot v16) = true
     · rw [if_pos c17] at h
       cases h
       show LK env [] 0 [0, 3, 5, 7, 8, 9] c12_L0 (some (t_additivelaw40_EmitValid_L0_st _ _ _ _)) = some (t_additivelaw40_EmitValid_L0_out _ _ _ _)
       simp only [t_additivelaw40_EmitValid_L0_st, t_additivelaw40_EmitValid_L0_out]
       rw [LK_step]
       rcases tof v16 with a18 | a18
       · simp [c10, a18] at c17
       · simp (maxSteps := 4000000) [c10, a18, f11, f14]
     · rw [if_neg c17] at h
       rw [Bool.not_eq_true] at c17
       by_cases c20 : (ine (iand .i64 v13.Has 16) 0) = true
       · rw [if_pos c20] at h
         by_cases c22 : (ieq v13.F s0) = true
         · rw [if_pos c22] at h
           cases h
           show LK env [] 0 [0, 3, 5, 7, 8, 9] c12_L0 (some (t_additivelaw40_EmitValid_L0_st _ _ _ _)) = some (t_additivelaw40_EmitValid_L0_out _ _ _ _)
           simp only [t_additivelaw40_EmitValid_L0_st, t_additivelaw40_EmitValid_L0_out]
           rw [LK_step]
           rcases tof v16 with a23 | a23
           · simp (maxSteps := 4000000) [c10, a23, c20, c22, f11, f14]
           · simp [c10, a23] at c17
         · rw [if_neg c22] at h
           rw [Bool.not_eq_true] at c22
           by_cases c26 : (ine (iand .i64 v13.Has 8) 0) = true
           · rw [if_pos c26] at h
             cases h
             show LK env [] 0 [0, 3, 5, 7, 8, 9] c12_L0 (some (t_additivelaw40_EmitValid_L0_st _ _ _ _)) = LK env [] 0 [0, 3, 5, 7, 8, 9] c12_L0 (some (t_additivelaw40_EmitValid_L0_st _ _ _ _))
             simp only [t_additivelaw40_EmitValid_L0_st]
             rw [LK_step]
             rcases tof v16 with a28 | a28
             · simp (maxSteps := 4000000) [c10, a28, c20, c22, c26, f11, f14]
             · simp [c10, a28] at c17
           · rw [if_neg c26] at h
             rw [Bool.not_eq_true] at c26
             cases h
             show LK env [] 0 [0, 3, 5, 7, 8, 9] c12_L0 (some (t_additivelaw40_EmitValid_L0_st _ _ _ _)) = LK env [] 0 [0, 3, 5, 7, 8, 9] c12_L0 (some (t_additivelaw40_EmitValid_L0_st _ _ _ _))
             simp only [t_additivelaw40_EmitValid_L0_st]
             rw [LK_step]
             rcases tof v16 with a29 | a29
             · simp (maxSteps := 4000000) [c10, a29, c20, c22, c26, f11, f14]
             · simp [c10, a29] at c17
       · rw [if_neg c20] at h
         rw [Bool.not_eq_true] at c20
         by_cases c31 : (ine (iand .i64 v13.Has 8) 0) = true
         · rw [if_pos c31] at h
           cases h
           show LK env [] 0 [0, 3, 5, 7, 8, 9] c12_L0 (some (t_additivelaw40_EmitValid_L0_st _ _ _ _)) = LK env [] 0 [0, 3, 5, 7, 8, 9] c12_L0 (some (t_additivelaw40_EmitValid_L0_st _ _ _ _))
           simp only [t_additivelaw40_EmitValid_L0_st]
           rw [LK_step]
           rcases tof v16 with a33 | a33
           · simp (maxSteps := 4000000) [c10, a33, c20, c31, f11, f14]
           · simp [c10, a33] at c17
         · rw [if_neg c31] at h
           rw [Bool.not_eq_true] at c31
           cases h
           show LK env [] 0 [0, 3, 5, 7, 8, 9] c12_L0 (some (t_additivelaw40_EmitValid_L0_st _ _ _ _)) = LK env [] 0 [0, 3, 5, 7, 8, 9] c12_L0 (some (t_additivelaw40_EmitValid_L0_st _ _ _ _))
           simp only [t_additivelaw40_EmitValid_L0_st]
           rw [LK_step]
           rcases tof v16 with a34 | a34
           · simp (maxSteps := 4000000) [c10, a34, c20, c31, f11, f14]
           · simp [c10, a34] at c17
 · rw [if_neg c10] at h
   rw [Bool.not_eq_true] at c10
   cases h
   show LK env [] 0 [0, 3, 5, 7, 8, 9] c12_L0 (some (t_additivelaw40_EmitValid_L0_st _ _ _ _)) = some (t_additivelaw40_EmitValid_L0_out _ _ _ _)
   simp only [t_additivelaw40_EmitValid_L0_st, t_additivelaw40_EmitValid_L0_out]
   rw [LK_step]
   simp (maxSteps := 4000000) [c10]) bigN s r h
def t_additivelaw40_EmitValid (p0 : (FS api_Op)) (p1 : api_Settings) : Option Bool := (match t_additivelaw40_few p0 with
 | none => none
 | some v3 => (match t_emit_Commands v3 p1 with
 | none => none
 | some v6 => (if (ine v6.2 0) = true then some (band (ieq (flen v6.1) 0) u_additivelaw40_awake)
 else (match loopT (t_additivelaw40_EmitValid_L0 v3 p1 v6.1) bigN (0, 0, 0) with
 | none => none
 | some v29 => (match v29 with
 | .inl v29x => some v29x
 | .inr v29x => (match t_additiveref35_Amounts v3 p1 with
 | none => none
 | some v33 => (match gOpt (band (ieq v33.2 0) (bnot (ieq (flen v33.1) 0))) (fget v33.1 (isub .i64 (flen v33.1) 1)) with
 | none => none
 | some v36 => some (band (band (ieq v33.2 0) (bor (ieq (flen v33.1) 0) (ieq (v36.getD 0) v29x))) u_additivelaw40_awake))))))))
theorem t_additivelaw40_EmitValid_ok {p0 : (FS api_Op)} {p1 : api_Settings} {r : Bool} (h : t_additivelaw40_EmitValid p0 p1 = some r) : FC env 12 [encF e_api_Op p0, .agg [.int .i64 p1.Pitch, .int .i64 p1.Height, .int .i64 p1.Walls, .int .i64 p1.Top, .int .i64 p1.Bottom, .int .i64 p1.Pattern, .int .i64 p1.Spacing, .bool p1.Support, .int .i64 p1.Reach, .int .i64 p1.Gap, .int .i64 p1.Brim, .int .i64 p1.Skirt, .int .i64 p1.Drop, .int .i64 p1.Feed, .int .i64 p1.Travel, .int .i64 p1.Retract, .int .i64 p1.MinTime, .int .i64 p1.MinFeed, .int .i64 p1.Nozzle, .int .i64 p1.Bed]] none = some (.bool r, fun _ => none) := by
 unfold t_additivelaw40_EmitValid at h
 cases h2 : t_additivelaw40_few p0 with
 | none => (rw [h2] at h; cases h)
 | some v3 =>
  simp only [h2] at h
  have f1 := t_additivelaw40_few_ok h2
  cases h5 : t_emit_Commands v3 p1 with
  | none => (rw [h5] at h; cases h)
  | some v6 =>
   simp only [h5] at h
   have f4 := t_emit_Commands_ok h5
   by_cases c7 : (ine v6.2 0) = true
   · rw [if_pos c7] at h
     have f8 := u_additivelaw40_awake_ok 
     cases h
     refine FC_pure (lf := lf12) rfl rfl rfl ?_
     simp only [lf12, lc12]
     rcases tof (ieq (flen v6.1) 0) with a9 | a9
     · simp (maxSteps := 4000000) [c7, a9, f1, f4, f8]
     · simp (maxSteps := 4000000) [c7, a9, f1, f4, f8]
   · rw [if_neg c7] at h
     rw [Bool.not_eq_true] at c7
     cases h35 : loopT (t_additivelaw40_EmitValid_L0 v3 p1 v6.1) bigN (0, 0, 0) with
     | none => (rw [h35] at h; cases h)
     | some v36 =>
      simp only [h35] at h
      have f37 := t_additivelaw40_EmitValid_L0_ok h35
      cases v36 with
      | inl v36x =>
       try simp only at h
       simp only [t_additivelaw40_EmitValid_L0_st, t_additivelaw40_EmitValid_L0_out, fset_len] at f37
       try simp only [fcase_nil, fcase_lst, fcase_fsnoc, fcase_fapp, fcase_fset, fcase_frep, fcase_flit, fcase_flst] at f37
       cases h
       refine FC_pure (lf := lf12) rfl rfl rfl ?_
       simp only [lf12, lc12]
       try simp only [c7] at f37
       simp (maxSteps := 4000000) [c7, f1, f4, f37]
      | inr v36x =>
       try simp only at h
       simp only [t_additivelaw40_EmitValid_L0_st, t_additivelaw40_EmitValid_L0_out, fset_len] at f37
       try simp only [fcase_nil, fcase_lst, fcase_fsnoc, fcase_fapp, fcase_fset, fcase_frep, fcase_flit, fcase_flst] at f37
       cases h39 : t_additiveref35_Amounts v3 p1 with
       | none => (rw [h39] at h; cases h)
       | some v40 =>
        simp only [h39] at h
        have f38 := t_additiveref35_Amounts_ok h39
        cases h42 : gOpt (band (ieq v40.2 0) (bnot (ieq (flen v40.1) 0))) (fget v40.1 (isub .i64 (flen v40.1) 1)) with
        | none => (rw [h42] at h; cases h)
        | some v43 =>
         simp only [h42] at h
         have f41 := fun (q0 : (ieq v40.2 0) = true) (q1 : (ieq (flen v40.1) 0) = false) => iaddr_F (e := e_i64) (gOpt_getD 0 h42 (band_mk q0 (bnot_mk q1)))
         have f44 := u_additivelaw40_awake_ok 
         cases h
         refine FC_pure (lf := lf12) rfl rfl rfl ?_
         simp only [lf12, lc12]
         rcases tof (ieq v40.2 0) with a45 | a45
         · rcases tof (ieq (flen v40.1) 0) with a46 | a46
           · try simp only [c7, a45, a46] at f37
             simp (maxSteps := 4000000) [c7, a45, a46, f1, f4, f37, f38, f41, f44]
           · rcases tof (ieq (v43.getD 0) v36x) with a47 | a47
             · try simp only [c7, a45, a46, a47] at f37
               simp (maxSteps := 4000000) [c7, a45, a46, a47, f1, f4, f37, f38, f41, f44]
             · try simp only [c7, a45, a46, a47] at f37
               simp (maxSteps := 4000000) [c7, a45, a46, a47, f1, f4, f37, f38, f41, f44]
         · try simp only [c7, a45] at f37
           simp (maxSteps := 4000000) [c7, a45, f1, f4, f37, f38, f41, f44]
end Go.Proofs.Ytchiiiahgmfofaa
