/- Typed functions of this seat, each with the proof that the code computes it; by program (tg3.py). -/
import Derived.Test.YtchiiiahgmfofaaCode
import Derived.Test.YtchiiiahgmfofaaVu
import Derived.KernelRfl
import Derived.Test.YtchiiiahgmfofaaTe
namespace Go.Proofs.Ytchiiiahgmfofaa
open Go Go.Vv Go.Proofs
set_option linter.unusedSimpArgs false
set_option linter.unusedVariables false
set_option maxRecDepth 100000
set_option maxHeartbeats 4000000

/-! additivelaw40.visited -/
attribute [simp] c42_0 c42_1 c42_2 c42_3 c42_4 c42_5 c42_6 c42_7 c42_8 c42_9 c42_10 c42_11 c42_12 c42_13 c42_14 c42_16 c42_18
theorem c42_L0_u (Γ : Env) (ps : List Nat) (σ : St) : EC Γ ps 0 c42_L0 σ = EC Γ ps 0 (.seq (.seq (.reg false c42_7) (.cond (.t 37) .skip (.seq (.trim [0, 4, 5, 6]) (.exit 2)))) (.seq (.blk 3 (.seq (.reg false c42_8) (.seq (.seq (.reg false c42_9) (.cond (.t 62) (.exit 3) .skip)) (.seq (.seq (.reg false c42_10) (.cond (.t 66) (.seq (.reg false c42_11) (.seq (.trim [2, 3]) .ret)) .skip)) (.seq (.reg false c42_12) (.reg false c42_13)))))) (.reg false c42_14))) σ := rfl
theorem c42_L1_u (Γ : Env) (ps : List Nat) (σ : St) : EC Γ ps 0 c42_L1 σ = EC Γ ps 0 (.seq (.seq (.reg false c42_4) (.cond (.t 13) .skip (.seq (.trim [4]) (.exit 0)))) (.seq (.blk 1 (.seq (.seq (.reg false c42_5) (.cond (.t 29) (.exit 1) .skip)) (.seq (.reg false c42_6) (.blk 2 (.loop [0, 4, 5, 6, 7] c42_L0))))) (.reg false c42_16))) σ := rfl
attribute [simp ↓] c42_L0_u c42_L1_u
def t_additivelaw40_visited_L0 (k0 : (FS api_Op)) (k1 : Int) (s : ((FS api_Cell) × api_Cell × Int)) : Option (LR ((FS api_Cell) × api_Cell × Int) (((FS api_Cell) × Bool) ⊕ (api_Cell × (FS api_Cell)))) := match s with
 | (s0, s1, s2) => (match fget k0 k1 with
 | none => none
 | some v9 => (if (ilt s2 (flen v9.Cells)) = true then (match fget v9.Cells s2 with
 | none => none
 | some v14 => (if (band (band (ieq s2 0) (ieq v9.Kind 3)) (band (ieq v14.X s1.X) (band (ieq v14.Y s1.Y) true))) = true then some (.nx (s0, s1, (iadd .i64 s2 1)))
 else (if (bnot (u_additivelaw40_near s1 v14)) = true then some (.dn (.inl ((FS.nil : (FS api_Cell)), false)))
 else (if fits 16 ((flen s0) + 1) = true then some (.nx ((fsnoc s0 v14), v14, (iadd .i64 s2 1))) else none))))
 else some (.dn (.inr (s1, s0)))))
def t_additivelaw40_visited_L0_st (k0 : (FS api_Op)) (k1 : Int) (s : ((FS api_Cell) × api_Cell × Int)) : St := match s with
 | (s0, s1, s2) => (fcase s0 (⟨fr [(0, encF e_api_Op k0), (4, .nils), (5, .ptr 5 0 0), (6, .int .i64 k1), (7, .int .i64 s2)], hl [(5, .box 0 [.int .i64 s1.X, .int .i64 s1.Y])]⟩)
  (fun l0 => ⟨fr [(0, encF e_api_Op k0), (4, .arr 4 0 0 l0.l.length), (5, .ptr 5 0 0), (6, .int .i64 k1), (7, .int .i64 s2)], hl [(4, .arr 0 2 26 (cellsE e_api_Cell l0.l) false), (5, .box 0 [.int .i64 s1.X, .int .i64 s1.Y])]⟩))
def t_additivelaw40_visited_L0_out (k0 : (FS api_Op)) (k1 : Int) (x : (((FS api_Cell) × Bool) ⊕ (api_Cell × (FS api_Cell)))) : LE × St := match x with
 | .inl x => (.ret, ⟨fr [(2, .nils), (3, .bool x.2)], hl []⟩)
 | .inr x => (fcase x.2 (.exit 2, ⟨fr [(0, encF e_api_Op k0), (4, .nils), (5, .ptr 5 0 0), (6, .int .i64 k1)], hl [(5, .box 0 [.int .i64 x.1.X, .int .i64 x.1.Y])]⟩)
  (fun l0 => (.exit 2, ⟨fr [(0, encF e_api_Op k0), (4, .arr 4 0 0 l0.l.length), (5, .ptr 5 0 0), (6, .int .i64 k1)], hl [(4, .arr 0 2 26 (cellsE e_api_Cell l0.l) false), (5, .box 0 [.int .i64 x.1.X, .int .i64 x.1.Y])]⟩)))
theorem t_additivelaw40_visited_L0_ok {k0 : (FS api_Op)} {k1 : Int} {s : ((FS api_Cell) × api_Cell × Int)} {r : (((FS api_Cell) × Bool) ⊕ (api_Cell × (FS api_Cell)))} (h : loopT (t_additivelaw40_visited_L0 k0 k1) bigN s = some r) : LK env [] 0 [0, 4, 5, 6, 7] c42_L0 (some (t_additivelaw40_visited_L0_st k0 k1 s)) = some (t_additivelaw40_visited_L0_out k0 k1 r) := loop_walk (st := t_additivelaw40_visited_L0_st k0 k1) (out := t_additivelaw40_visited_L0_out k0 k1) (by
 clear h s r
 rintro ⟨s0, s1, s2⟩ x h
 simp only [t_additivelaw40_visited_L0] at h
 cases e12 : s0 with
 | nil =>
  try simp only [e12, flen_nil] at h
  cases h14 : fget k0 k1 with
  | none => (rw [h14] at h; cases h)
  | some v15 =>
   simp only [h14] at h
   have f13 := iaddr_F (e := e_api_Op) h14
   by_cases c16 : (ilt s2 (flen v15.Cells)) = true
   · rw [if_pos c16] at h
     cases h19 : fget v15.Cells s2 with
     | none => (rw [h19] at h; cases h)
     | some v20 =>
      simp only [h19] at h
      have f18 := iaddr_F (e := e_api_Cell) h19
      by_cases c22 : (band (band (ieq s2 0) (ieq v15.Kind 3)) (band (ieq v20.X s1.X) (band (ieq v20.Y s1.Y) true))) = true
      · rw [if_pos c22] at h
        cases h
        show LK env [] 0 [0, 4, 5, 6, 7] c42_L0 (some (t_additivelaw40_visited_L0_st _ _ _)) = LK env [] 0 [0, 4, 5, 6, 7] c42_L0 (some (t_additivelaw40_visited_L0_st _ _ _))
        simp only [t_additivelaw40_visited_L0_st, e12]
        rw [LK_step]
        rcases tof (ieq s2 0) with a23 | a23
        · rcases tof (ieq v15.Kind 3) with a24 | a24
          · rcases tof (ieq v20.X s1.X) with a25 | a25
            · rcases tof (ieq v20.Y s1.Y) with a26 | a26
              · simp (maxSteps := 4000000) [c16, a23, a24, a25, a26, e12, f13, f18]
              · simp [c16, a23, a24, a25, a26] at c22
            · simp [c16, a23, a24, a25] at c22
          · simp [c16, a23, a24] at c22
        · simp [c16, a23] at c22
      · rw [if_neg c22] at h
        rw [Bool.not_eq_true] at c22
        have f27 := u_additivelaw40_near_ok s1 v20
        by_cases c28 : (bnot (u_additivelaw40_near s1 v20)) = true
        · rw [if_pos c28] at h
          cases h
          show LK env [] 0 [0, 4, 5, 6, 7] c42_L0 (some (t_additivelaw40_visited_L0_st _ _ _)) = some (t_additivelaw40_visited_L0_out _ _ _)
          simp only [t_additivelaw40_visited_L0_st, t_additivelaw40_visited_L0_out, e12]
          rw [LK_step]
          rcases tof (ieq s2 0) with a29 | a29
          · rcases tof (ieq v15.Kind 3) with a30 | a30
            · rcases tof (ieq v20.X s1.X) with a31 | a31
              · rcases tof (ieq v20.Y s1.Y) with a32 | a32
                · simp [c16, a29, a30, a31, a32] at c22
                · rcases tof (u_additivelaw40_near s1 v20) with a33 | a33
                  · simp [c16, a29, a30, a31, a32, a33] at c28
                  · simp (maxSteps := 4000000) [c16, a29, a30, a31, a32, a33, e12, f13, f18, f27]
              · rcases tof (u_additivelaw40_near s1 v20) with a34 | a34
                · simp [c16, a29, a30, a31, a34] at c28
                · simp (maxSteps := 4000000) [c16, a29, a30, a31, a34, e12, f13, f18, f27]
            · rcases tof (u_additivelaw40_near s1 v20) with a35 | a35
              · simp [c16, a29, a30, a35] at c28
              · simp (maxSteps := 4000000) [c16, a29, a30, a35, e12, f13, f18, f27]
          · rcases tof (u_additivelaw40_near s1 v20) with a36 | a36
            · simp [c16, a29, a36] at c28
            · simp (maxSteps := 4000000) [c16, a29, a36, e12, f13, f18, f27]
        · rw [if_neg c28] at h
          rw [Bool.not_eq_true] at c28
          by_cases h38 : fits 16 (0 + 1) = true
          · rw [if_pos h38] at h
            have f37 := fun H g0 hg y => @app_nil _ _ e_api_Cell _ v20 16 h38 (by decide) H g0 26 y hg
            simp only [e_api_Cell] at f37
            cases h
            show LK env [] 0 [0, 4, 5, 6, 7] c42_L0 (some (t_additivelaw40_visited_L0_st _ _ _)) = LK env [] 0 [0, 4, 5, 6, 7] c42_L0 (some (t_additivelaw40_visited_L0_st _ _ _))
            simp only [t_additivelaw40_visited_L0_st, e12]
            rw [LK_step]
            rcases tof (ieq s2 0) with a39 | a39
            · rcases tof (ieq v15.Kind 3) with a40 | a40
              · rcases tof (ieq v20.X s1.X) with a41 | a41
                · rcases tof (ieq v20.Y s1.Y) with a42 | a42
                  · simp [c16, a39, a40, a41, a42] at c22
                  · rcases tof (u_additivelaw40_near s1 v20) with a43 | a43
                    · simp (maxSteps := 4000000) [c16, a39, a40, a41, a42, a43, e12, f13, f18, f27, f37]
                    · simp [c16, a39, a40, a41, a42, a43] at c28
                · rcases tof (u_additivelaw40_near s1 v20) with a44 | a44
                  · simp (maxSteps := 4000000) [c16, a39, a40, a41, a44, e12, f13, f18, f27, f37]
                  · simp [c16, a39, a40, a41, a44] at c28
              · rcases tof (u_additivelaw40_near s1 v20) with a45 | a45
                · simp (maxSteps := 4000000) [c16, a39, a40, a45, e12, f13, f18, f27, f37]
                · simp [c16, a39, a40, a45] at c28
            · rcases tof (u_additivelaw40_near s1 v20) with a46 | a46
              · simp (maxSteps := 4000000) [c16, a39, a46, e12, f13, f18, f27, f37]
              · simp [c16, a39, a46] at c28
          · rw [if_neg h38] at h; cases h
   · rw [if_neg c16] at h
     rw [Bool.not_eq_true] at c16
     cases h
     show LK env [] 0 [0, 4, 5, 6, 7] c42_L0 (some (t_additivelaw40_visited_L0_st _ _ _)) = some (t_additivelaw40_visited_L0_out _ _ _)
     simp only [t_additivelaw40_visited_L0_st, t_additivelaw40_visited_L0_out, e12]
     rw [LK_step]
     simp (maxSteps := 4000000) [c16, e12, f13]
 | lst l11 =>
  try simp only [e12] at h
  cases h48 : fget k0 k1 with
  | none => (rw [h48] at h; cases h)
  | some v49 =>
   simp only [h48] at h
   have f47 := iaddr_F (e := e_api_Op) h48
   by_cases c50 : (ilt s2 (flen v49.Cells)) = true
   · rw [if_pos c50] at h
     cases h53 : fget v49.Cells s2 with
     | none => (rw [h53] at h; cases h)
     | some v54 =>
      simp only [h53] at h
      have f52 := iaddr_F (e := e_api_Cell) h53
      by_cases c56 : (band (band (ieq s2 0) (ieq v49.Kind 3)) (band (ieq v54.X s1.X) (band (ieq v54.Y s1.Y) true))) = true
      · rw [if_pos c56] at h
        cases h
        show LK env [] 0 [0, 4, 5, 6, 7] c42_L0 (some (t_additivelaw40_visited_L0_st _ _ _)) = LK env [] 0 [0, 4, 5, 6, 7] c42_L0 (some (t_additivelaw40_visited_L0_st _ _ _))
        simp only [t_additivelaw40_visited_L0_st, e12]
        rw [LK_step]
        rcases tof (ieq s2 0) with a57 | a57
        · rcases tof (ieq v49.Kind 3) with a58 | a58
          · rcases tof (ieq v54.X s1.X) with a59 | a59
            · rcases tof (ieq v54.Y s1.Y) with a60 | a60
              · simp (maxSteps := 4000000) [c50, a57, a58, a59, a60, e12, f47, f52]
              · simp [c50, a57, a58, a59, a60] at c56
            · simp [c50, a57, a58, a59] at c56
          · simp [c50, a57, a58] at c56
        · simp [c50, a57] at c56
      · rw [if_neg c56] at h
        rw [Bool.not_eq_true] at c56
        have f61 := u_additivelaw40_near_ok s1 v54
        by_cases c62 : (bnot (u_additivelaw40_near s1 v54)) = true
        · rw [if_pos c62] at h
          cases h
          show LK env [] 0 [0, 4, 5, 6, 7] c42_L0 (some (t_additivelaw40_visited_L0_st _ _ _)) = some (t_additivelaw40_visited_L0_out _ _ _)
          simp only [t_additivelaw40_visited_L0_st, t_additivelaw40_visited_L0_out, e12]
          rw [LK_step]
          rcases tof (ieq s2 0) with a63 | a63
          · rcases tof (ieq v49.Kind 3) with a64 | a64
            · rcases tof (ieq v54.X s1.X) with a65 | a65
              · rcases tof (ieq v54.Y s1.Y) with a66 | a66
                · simp [c50, a63, a64, a65, a66] at c56
                · rcases tof (u_additivelaw40_near s1 v54) with a67 | a67
                  · simp [c50, a63, a64, a65, a66, a67] at c62
                  · simp (maxSteps := 4000000) [c50, a63, a64, a65, a66, a67, e12, f47, f52, f61]
              · rcases tof (u_additivelaw40_near s1 v54) with a68 | a68
                · simp [c50, a63, a64, a65, a68] at c62
                · simp (maxSteps := 4000000) [c50, a63, a64, a65, a68, e12, f47, f52, f61]
            · rcases tof (u_additivelaw40_near s1 v54) with a69 | a69
              · simp [c50, a63, a64, a69] at c62
              · simp (maxSteps := 4000000) [c50, a63, a64, a69, e12, f47, f52, f61]
          · rcases tof (u_additivelaw40_near s1 v54) with a70 | a70
            · simp [c50, a63, a70] at c62
            · simp (maxSteps := 4000000) [c50, a63, a70, e12, f47, f52, f61]
        · rw [if_neg c62] at h
          rw [Bool.not_eq_true] at c62
          by_cases h72 : fits 16 ((flen (FS.lst l11)) + 1) = true
          · rw [if_pos h72] at h
            have f71 := fun g0 H y => @app_row1 _ _ e_api_Cell _ (FS.lst l11) v54 16 h72 (by decide) g0 H 4 0 26 y
            simp only [e_api_Cell] at f71
            cases h
            show LK env [] 0 [0, 4, 5, 6, 7] c42_L0 (some (t_additivelaw40_visited_L0_st _ _ _)) = LK env [] 0 [0, 4, 5, 6, 7] c42_L0 (some (t_additivelaw40_visited_L0_st _ _ _))
            simp only [t_additivelaw40_visited_L0_st, e12]
            rw [LK_step]
            rcases tof (ieq s2 0) with a73 | a73
            · rcases tof (ieq v49.Kind 3) with a74 | a74
              · rcases tof (ieq v54.X s1.X) with a75 | a75
                · rcases tof (ieq v54.Y s1.Y) with a76 | a76
                  · simp [c50, a73, a74, a75, a76] at c56
                  · rcases tof (u_additivelaw40_near s1 v54) with a77 | a77
                    · simp (maxSteps := 4000000) [c50, a73, a74, a75, a76, a77, e12, f47, f52, f61, f71]
                    · simp [c50, a73, a74, a75, a76, a77] at c62
                · rcases tof (u_additivelaw40_near s1 v54) with a78 | a78
                  · simp (maxSteps := 4000000) [c50, a73, a74, a75, a78, e12, f47, f52, f61, f71]
                  · simp [c50, a73, a74, a75, a78] at c62
              · rcases tof (u_additivelaw40_near s1 v54) with a79 | a79
                · simp (maxSteps := 4000000) [c50, a73, a74, a79, e12, f47, f52, f61, f71]
                · simp [c50, a73, a74, a79] at c62
            · rcases tof (u_additivelaw40_near s1 v54) with a80 | a80
              · simp (maxSteps := 4000000) [c50, a73, a80, e12, f47, f52, f61, f71]
              · simp [c50, a73, a80] at c62
          · rw [if_neg h72] at h; cases h
   · rw [if_neg c50] at h
     rw [Bool.not_eq_true] at c50
     cases h
     show LK env [] 0 [0, 4, 5, 6, 7] c42_L0 (some (t_additivelaw40_visited_L0_st _ _ _)) = some (t_additivelaw40_visited_L0_out _ _ _)
     simp only [t_additivelaw40_visited_L0_st, t_additivelaw40_visited_L0_out, e12]
     rw [LK_step]
     simp (maxSteps := 4000000) [c50, e12, f47]) bigN s r h
def t_additivelaw40_visited_L1 (k0 : (FS api_Op)) (s : ((FS api_Cell) × api_Cell × Int)) : Option (LR ((FS api_Cell) × api_Cell × Int) (((FS api_Cell) × Bool) ⊕ (FS api_Cell))) := match s with
 | (s0, s1, s2) => (if (ilt s2 (flen k0)) = true then (match fget k0 s2 with
 | none => none
 | some v4 => (if (band (ine v4.Kind 2) (ine v4.Kind 3)) = true then some (.nx (s0, s1, (iadd .i64 s2 1)))
 else (match loopT (t_additivelaw40_visited_L0 k0 s2) bigN (s0, s1, 0) with
 | none => none
 | some v22 => (match v22 with
 | .inl v22x => some (.dn (.inl ((FS.nil : (FS api_Cell)), v22x.2)))
 | .inr v22x => some (.nx (v22x.2, v22x.1, (iadd .i64 s2 1)))))))
 else some (.dn (.inr s0)))
def t_additivelaw40_visited_L1_st (k0 : (FS api_Op)) (s : ((FS api_Cell) × api_Cell × Int)) : St := match s with
 | (s0, s1, s2) => (fcase s0 (⟨fr [(0, encF e_api_Op k0), (4, .nils), (5, .ptr 5 0 0), (6, .int .i64 s2)], hl [(5, .box 0 [.int .i64 s1.X, .int .i64 s1.Y])]⟩)
  (fun l0 => ⟨fr [(0, encF e_api_Op k0), (4, .arr 4 0 0 l0.l.length), (5, .ptr 5 0 0), (6, .int .i64 s2)], hl [(4, .arr 0 2 26 (cellsE e_api_Cell l0.l) false), (5, .box 0 [.int .i64 s1.X, .int .i64 s1.Y])]⟩))
def t_additivelaw40_visited_L1_out (k0 : (FS api_Op)) (x : (((FS api_Cell) × Bool) ⊕ (FS api_Cell))) : LE × St := match x with
 | .inl x => (.ret, ⟨fr [(2, .nils), (3, .bool x.2)], hl []⟩)
 | .inr x => (fcase x (.exit 0, ⟨fr [(4, .nils)], hl []⟩)
  (fun l0 => (.exit 0, ⟨fr [(4, .arr 4 0 0 l0.l.length)], hl [(4, .arr 0 2 26 (cellsE e_api_Cell l0.l) false)]⟩)))
theorem t_additivelaw40_visited_L1_ok {k0 : (FS api_Op)} {s : ((FS api_Cell) × api_Cell × Int)} {r : (((FS api_Cell) × Bool) ⊕ (FS api_Cell))} (h : loopT (t_additivelaw40_visited_L1 k0) bigN s = some r) : LK env [] 0 [0, 4, 5, 6] c42_L1 (some (t_additivelaw40_visited_L1_st k0 s)) = some (t_additivelaw40_visited_L1_out k0 r) := loop_walk (st := t_additivelaw40_visited_L1_st k0) (out := t_additivelaw40_visited_L1_out k0) (by
 clear h s r
 rintro ⟨s0, s1, s2⟩ x h
 simp only [t_additivelaw40_visited_L1] at h
 cases e2 : s0 with
 | nil =>
  try simp only [e2, flen_nil] at h
  by_cases c3 : (ilt s2 (flen k0)) = true
  · rw [if_pos c3] at h
    cases h5 : fget k0 s2 with
    | none => (rw [h5] at h; cases h)
    | some v6 =>
     simp only [h5] at h
     have f4 := iaddr_F (e := e_api_Op) h5
     by_cases c8 : (band (ine v6.Kind 2) (ine v6.Kind 3)) = true
     · rw [if_pos c8] at h
       cases h
       show LK env [] 0 [0, 4, 5, 6] c42_L1 (some (t_additivelaw40_visited_L1_st _ _)) = LK env [] 0 [0, 4, 5, 6] c42_L1 (some (t_additivelaw40_visited_L1_st _ _))
       simp only [t_additivelaw40_visited_L1_st, e2]
       rw [LK_step]
       rcases tof (ine v6.Kind 2) with a9 | a9
       · rcases tof (ine v6.Kind 3) with a10 | a10
         · simp (maxSteps := 4000000) [c3, a9, a10, e2, f4]
         · simp [c3, a9, a10] at c8
       · simp [c3, a9] at c8
     · rw [if_neg c8] at h
       rw [Bool.not_eq_true] at c8
       cases h81 : loopT (t_additivelaw40_visited_L0 k0 s2) bigN ((FS.nil : (FS api_Cell)), s1, 0) with
       | none => (rw [h81] at h; cases h)
       | some v82 =>
        simp only [h81] at h
        have f83 := t_additivelaw40_visited_L0_ok h81
        cases v82 with
        | inl v82x =>
         try simp only at h
         simp only [t_additivelaw40_visited_L0_st, t_additivelaw40_visited_L0_out, fset_len] at f83
         try simp only [fcase_nil, fcase_lst, fcase_fsnoc, fcase_fapp, fcase_fset, fcase_frep, fcase_flit, fcase_flst] at f83
         cases h
         show LK env [] 0 [0, 4, 5, 6] c42_L1 (some (t_additivelaw40_visited_L1_st _ _)) = some (t_additivelaw40_visited_L1_out _ _)
         simp only [t_additivelaw40_visited_L1_st, t_additivelaw40_visited_L1_out, e2]
         rw [LK_step]
         rcases tof (ine v6.Kind 2) with a84 | a84
         · rcases tof (ine v6.Kind 3) with a85 | a85
           · simp [c3, a84, a85] at c8
           · try simp only [c3, a84, a85] at f83
             simp (maxSteps := 4000000) [c3, a84, a85, e2, f4, f83]
         · try simp only [c3, a84] at f83
           simp (maxSteps := 4000000) [c3, a84, e2, f4, f83]
        | inr v82x =>
         try simp only at h
         simp only [t_additivelaw40_visited_L0_st, t_additivelaw40_visited_L0_out, fset_len] at f83
         cases e87 : v82x.2 with
         | nil =>
          try simp only [e87, flen_nil] at h
          simp only [e87, flen_nil, fcase_nil, fcase_lst] at f83
          cases h
          show LK env [] 0 [0, 4, 5, 6] c42_L1 (some (t_additivelaw40_visited_L1_st _ _)) = LK env [] 0 [0, 4, 5, 6] c42_L1 (some (t_additivelaw40_visited_L1_st _ _))
          simp only [t_additivelaw40_visited_L1_st, e2]
          rw [LK_step]
          rcases tof (ine v6.Kind 2) with a88 | a88
          · rcases tof (ine v6.Kind 3) with a89 | a89
            · simp [c3, a88, a89] at c8
            · try simp only [c3, a88, a89] at f83
              simp (maxSteps := 4000000) [c3, a88, a89, e2, f4, f83, e87]
          · try simp only [c3, a88] at f83
            simp (maxSteps := 4000000) [c3, a88, e2, f4, f83, e87]
         | lst l86 =>
          try simp only [e87] at h
          simp only [e87, flen_nil, fcase_nil, fcase_lst] at f83
          cases h
          show LK env [] 0 [0, 4, 5, 6] c42_L1 (some (t_additivelaw40_visited_L1_st _ _)) = LK env [] 0 [0, 4, 5, 6] c42_L1 (some (t_additivelaw40_visited_L1_st _ _))
          simp only [t_additivelaw40_visited_L1_st, e2]
          rw [LK_step]
          rcases tof (ine v6.Kind 2) with a90 | a90
          · rcases tof (ine v6.Kind 3) with a91 | a91
            · simp [c3, a90, a91] at c8
            · try simp only [c3, a90, a91] at f83
              simp (maxSteps := 4000000) [c3, a90, a91, e2, f4, f83, e87]
          · try simp only [c3, a90] at f83
            simp (maxSteps := 4000000) [c3, a90, e2, f4, f83, e87]
  · rw [if_neg c3] at h
    rw [Bool.not_eq_true] at c3
    cases h
    show LK env [] 0 [0, 4, 5, 6] c42_L1 (some (t_additivelaw40_visited_L1_st _ _)) = some (t_additivelaw40_visited_L1_out _ _)
    simp only [t_additivelaw40_visited_L1_st, t_additivelaw40_visited_L1_out, e2]
    rw [LK_step]
    simp (maxSteps := 4000000) [c3, e2]
 | lst l1 =>
  try simp only [e2] at h
  by_cases c92 : (ilt s2 (flen k0)) = true
  · rw [if_pos c92] at h
    cases h94 : fget k0 s2 with
    | none => (rw [h94] at h; cases h)
    | some v95 =>
     simp only [h94] at h
     have f93 := iaddr_F (e := e_api_Op) h94
     by_cases c97 : (band (ine v95.Kind 2) (ine v95.Kind 3)) = true
     · rw [if_pos c97] at h
       cases h
       show LK env [] 0 [0, 4, 5, 6] c42_L1 (some (t_additivelaw40_visited_L1_st _ _)) = LK env [] 0 [0, 4, 5, 6] c42_L1 (some (t_additivelaw40_visited_L1_st _ _))
       simp only [t_additivelaw40_visited_L1_st, e2]
       rw [LK_step]
       rcases tof (ine v95.Kind 2) with a98 | a98
       · rcases tof (ine v95.Kind 3) with a99 | a99
         · simp (maxSteps := 4000000) [c92, a98, a99, e2, f93]
         · simp [c92, a98, a99] at c97
       · simp [c92, a98] at c97
     · rw [if_neg c97] at h
       rw [Bool.not_eq_true] at c97
       cases h100 : loopT (t_additivelaw40_visited_L0 k0 s2) bigN ((FS.lst l1), s1, 0) with
       | none => (rw [h100] at h; cases h)
       | some v101 =>
        simp only [h100] at h
        have f102 := t_additivelaw40_visited_L0_ok h100
        cases v101 with
        | inl v101x =>
         try simp only at h
         simp only [t_additivelaw40_visited_L0_st, t_additivelaw40_visited_L0_out, fset_len] at f102
         try simp only [fcase_nil, fcase_lst, fcase_fsnoc, fcase_fapp, fcase_fset, fcase_frep, fcase_flit, fcase_flst] at f102
         cases h
         show LK env [] 0 [0, 4, 5, 6] c42_L1 (some (t_additivelaw40_visited_L1_st _ _)) = some (t_additivelaw40_visited_L1_out _ _)
         simp only [t_additivelaw40_visited_L1_st, t_additivelaw40_visited_L1_out, e2]
         rw [LK_step]
         rcases tof (ine v95.Kind 2) with a103 | a103
         · rcases tof (ine v95.Kind 3) with a104 | a104
           · simp [c92, a103, a104] at c97
           · try simp only [c92, a103, a104] at f102
             simp (maxSteps := 4000000) [c92, a103, a104, e2, f93, f102]
         · try simp only [c92, a103] at f102
           simp (maxSteps := 4000000) [c92, a103, e2, f93, f102]
        | inr v101x =>
         try simp only at h
         simp only [t_additivelaw40_visited_L0_st, t_additivelaw40_visited_L0_out, fset_len] at f102
         cases e106 : v101x.2 with
         | nil =>
          try simp only [e106, flen_nil] at h
          simp only [e106, flen_nil, fcase_nil, fcase_lst] at f102
          cases h
          show LK env [] 0 [0, 4, 5, 6] c42_L1 (some (t_additivelaw40_visited_L1_st _ _)) = LK env [] 0 [0, 4, 5, 6] c42_L1 (some (t_additivelaw40_visited_L1_st _ _))
          simp only [t_additivelaw40_visited_L1_st, e2]
          rw [LK_step]
          rcases tof (ine v95.Kind 2) with a107 | a107
          · rcases tof (ine v95.Kind 3) with a108 | a108
            · simp [c92, a107, a108] at c97
            · try simp only [c92, a107, a108] at f102
              simp (maxSteps := 4000000) [c92, a107, a108, e2, f93, f102, e106]
          · try simp only [c92, a107] at f102
            simp (maxSteps := 4000000) [c92, a107, e2, f93, f102, e106]
         | lst l105 =>
          try simp only [e106] at h
          simp only [e106, flen_nil, fcase_nil, fcase_lst] at f102
          cases h
          show LK env [] 0 [0, 4, 5, 6] c42_L1 (some (t_additivelaw40_visited_L1_st _ _)) = LK env [] 0 [0, 4, 5, 6] c42_L1 (some (t_additivelaw40_visited_L1_st _ _))
          simp only [t_additivelaw40_visited_L1_st, e2]
          rw [LK_step]
          rcases tof (ine v95.Kind 2) with a109 | a109
          · rcases tof (ine v95.Kind 3) with a110 | a110
            · simp [c92, a109, a110] at c97
            · try simp only [c92, a109, a110] at f102
              simp (maxSteps := 4000000) [c92, a109, a110, e2, f93, f102, e106]
          · try simp only [c92, a109] at f102
            simp (maxSteps := 4000000) [c92, a109, e2, f93, f102, e106]
  · rw [if_neg c92] at h
    rw [Bool.not_eq_true] at c92
    cases h
    show LK env [] 0 [0, 4, 5, 6] c42_L1 (some (t_additivelaw40_visited_L1_st _ _)) = some (t_additivelaw40_visited_L1_out _ _)
    simp only [t_additivelaw40_visited_L1_st, t_additivelaw40_visited_L1_out, e2]
    rw [LK_step]
    simp (maxSteps := 4000000) [c92, e2]) bigN s r h
def t_additivelaw40_visited (p0 : (FS api_Op)) : Option ((FS api_Cell) × Bool) := (match loopT (t_additivelaw40_visited_L1 p0) bigN ((FS.nil : (FS api_Cell)), (⟨0, 0⟩ : api_Cell), 0) with
 | none => none
 | some v25 => (match v25 with
 | .inl v25x => some ((FS.nil : (FS api_Cell)), v25x.2)
 | .inr v25x => some (v25x, true)))
theorem t_additivelaw40_visited_ok {p0 : (FS api_Op)} {r : ((FS api_Cell) × Bool)} (h : t_additivelaw40_visited p0 = some r) : FC env 42 [encF e_api_Op p0] none = some (.tup [encF e_api_Cell r.1, .bool r.2], fun _ => none) := by
 unfold t_additivelaw40_visited at h
 cases h111 : loopT (t_additivelaw40_visited_L1 p0) bigN ((FS.nil : (FS api_Cell)), (⟨0, 0⟩ : api_Cell), 0) with
 | none => (rw [h111] at h; cases h)
 | some v112 =>
  simp only [h111] at h
  have f113 := t_additivelaw40_visited_L1_ok h111
  cases v112 with
  | inl v112x =>
   try simp only at h
   simp only [t_additivelaw40_visited_L1_st, t_additivelaw40_visited_L1_out, fset_len] at f113
   try simp only [fcase_nil, fcase_lst, fcase_fsnoc, fcase_fapp, fcase_fset, fcase_frep, fcase_flit, fcase_flst] at f113
   cases h
   refine FC_pure (lf := lf42) rfl rfl rfl ?_
   simp only [lf42, lc42]
   simp (maxSteps := 4000000) [f113, snap_tupE, tupS, snap7_int, snap7_bool, snap7_str, snap7_nils, snap7_agg]
  | inr v112x =>
   try simp only at h
   simp only [t_additivelaw40_visited_L1_st, t_additivelaw40_visited_L1_out, fset_len] at f113
   cases e115 : v112x with
   | nil =>
    try simp only [e115, flen_nil] at h
    simp only [e115, flen_nil, fcase_nil, fcase_lst] at f113
    cases h
    refine FC_pure (lf := lf42) rfl rfl rfl ?_
    simp only [lf42, lc42]
    simp (maxSteps := 4000000) [f113, e115, snap_tupE, tupS, snap7_int, snap7_bool, snap7_str, snap7_nils, snap7_agg]
   | lst l114 =>
    try simp only [e115] at h
    simp only [e115, flen_nil, fcase_nil, fcase_lst] at f113
    cases h
    refine FC_pure (lf := lf42) rfl rfl rfl ?_
    simp only [lf42, lc42]
    simp (maxSteps := 4000000) [f113, e115, snap_row7 (e := e_api_Cell) (el := 26) (fz := false), snap_tupE, tupS, snap7_int, snap7_bool, snap7_str, snap7_nils, snap7_agg]

/-! additivelaw40.awake -/
def u_additivelaw40_awake : Bool := true
theorem u_additivelaw40_awake_ok : FC env 39 [] none = some (.bool u_additivelaw40_awake, fun _ => none) := FC_iff.2 ⟨60, by kernel_rfl⟩

/-! additivelaw40.towards -/
attribute [simp] c43_0 c43_1 c43_2 c43_3 c43_4 c43_5
def t_additivelaw40_towards (p0 : Int) (p1 : Int) : Option Int := (if (ilt p0 p1) = true then some (iadd .i64 p0 1)
 else (if (igt p0 p1) = true then some (isub .i64 p0 1)
 else some p0))
theorem t_additivelaw40_towards_ok {p0 : Int} {p1 : Int} {r : Int} (h : t_additivelaw40_towards p0 p1 = some r) : FC env 43 [.int .i64 p0, .int .i64 p1] none = some (.int .i64 r, fun _ => none) := by
 unfold t_additivelaw40_towards at h
 by_cases c1 : (ilt p0 p1) = true
 · rw [if_pos c1] at h
   cases h
   refine FC_pure (lf := lf43) rfl rfl rfl ?_
   simp only [lf43, lc43]
   simp (maxSteps := 4000000) [c1]
 · rw [if_neg c1] at h
   rw [Bool.not_eq_true] at c1
   by_cases c2 : (igt p0 p1) = true
   · rw [if_pos c2] at h
     cases h
     refine FC_pure (lf := lf43) rfl rfl rfl ?_
     simp only [lf43, lc43]
     simp (maxSteps := 4000000) [c1, c2]
   · rw [if_neg c2] at h
     rw [Bool.not_eq_true] at c2
     cases h
     refine FC_pure (lf := lf43) rfl rfl rfl ?_
     simp only [lf43, lc43]
     simp (maxSteps := 4000000) [c1, c2]

/-! additivelaw40.EmitFollows -/
attribute [simp] c13_0 c13_1 c13_2 c13_3 c13_4 c13_5 c13_6 c13_7 c13_8 c13_9 c13_10 c13_11 c13_12 c13_13 c13_14 c13_15 c13_16 c13_17 c13_18 c13_20 c13_22
theorem c13_L0_u (Γ : Env) (ps : List Nat) (σ : St) : EC Γ ps 0 c13_L0 σ = EC Γ ps 0 (.seq (.seq (.reg false c13_14) (.cond (.t 128) .skip (.seq (.trim [3, 5, 7, 9, 10, 11]) (.exit 2)))) (.blk 3 (.seq (.reg true c13_15) (.seq (.seq (.reg true c13_16) (.cond (.t 151) (.seq (.reg false c13_17) (.seq (.trim [4]) .ret)) .skip)) (.reg false c13_18))))) σ := rfl
theorem c13_L1_u (Γ : Env) (ps : List Nat) (σ : St) : EC Γ ps 0 c13_L1 σ = EC Γ ps 0 (.seq (.seq (.reg false c13_9) (.cond (.t 37) .skip (.seq (.trim [7, 10]) (.exit 0)))) (.seq (.blk 1 (.seq (.seq (.reg false c13_10) (.cond (.t 46) (.exit 1) .skip)) (.seq (.reg true c13_11) (.seq (.seq (.reg true c13_12) (.cond (.t 125) (.seq (.reg false c13_13) (.seq (.trim [4]) .ret)) .skip)) (.blk 2 (.loop [3, 5, 7, 9, 10, 11, 12] c13_L0)))))) (.reg false c13_20))) σ := rfl
attribute [simp ↓] c13_L0_u c13_L1_u
def t_additivelaw40_EmitFollows_L0 (k0 : api_Settings) (k1 : (FS api_Cmd)) (k2 : (FS api_Cell)) (k3 : Int) (k4 : api_Cell) (s : (api_Cell × Int)) : Option (LR (api_Cell × Int) (Bool ⊕ (api_Cell × Int))) := match s with
 | (s0, s1) => (if (bnot (band (ieq s0.X k4.X) (band (ieq s0.Y k4.Y) true))) = true then (match t_additivelaw40_towards s0.X k4.X with
 | none => none
 | some v28 => (match t_additivelaw40_towards s0.Y k4.Y with
 | none => none
 | some v31 => (match gOpt (bnot (ige s1 (flen k2))) (fget k2 s1) with
 | none => none
 | some v34 => (if (bor (ige s1 (flen k2)) (bnot (band (ieq (((v34.getD (⟨0, 0⟩ : api_Cell))).X) v28) (band (ieq (((v34.getD (⟨0, 0⟩ : api_Cell))).Y) v31) true)))) = true then some (.dn (.inl false))
 else some (.nx ((⟨v28, v31⟩ : api_Cell), (iadd .i64 s1 1)))))))
 else some (.dn (.inr (s0, s1))))
def t_additivelaw40_EmitFollows_L0_st (k0 : api_Settings) (k1 : (FS api_Cmd)) (k2 : (FS api_Cell)) (k3 : Int) (k4 : api_Cell) (s : (api_Cell × Int)) : St := match s with
 | (s0, s1) => ⟨fr [(3, .ptr 3 0 0), (5, encF e_api_Cmd k1), (7, encF e_api_Cell k2), (9, .ptr 9 0 0), (10, .int .i64 s1), (11, .int .i64 k3), (12, .ptr 12 0 0)], hl [(3, .box 0 [.int .i64 k0.Pitch, .int .i64 k0.Height, .int .i64 k0.Walls, .int .i64 k0.Top, .int .i64 k0.Bottom, .int .i64 k0.Pattern, .int .i64 k0.Spacing, .bool k0.Support, .int .i64 k0.Reach, .int .i64 k0.Gap, .int .i64 k0.Brim, .int .i64 k0.Skirt, .int .i64 k0.Drop, .int .i64 k0.Feed, .int .i64 k0.Travel, .int .i64 k0.Retract, .int .i64 k0.MinTime, .int .i64 k0.MinFeed, .int .i64 k0.Nozzle, .int .i64 k0.Bed]), (9, .box 0 [.int .i64 s0.X, .int .i64 s0.Y]), (12, .box 0 [.int .i64 k4.X, .int .i64 k4.Y])]⟩
def t_additivelaw40_EmitFollows_L0_out (k0 : api_Settings) (k1 : (FS api_Cmd)) (k2 : (FS api_Cell)) (k3 : Int) (k4 : api_Cell) (x : (Bool ⊕ (api_Cell × Int))) : LE × St := match x with
 | .inl x => (.ret, ⟨fr [(4, .bool x)], hl []⟩)
 | .inr x => (.exit 2, ⟨fr [(3, .ptr 3 0 0), (5, encF e_api_Cmd k1), (7, encF e_api_Cell k2), (9, .ptr 9 0 0), (10, .int .i64 x.2), (11, .int .i64 k3)], hl [(3, .box 0 [.int .i64 k0.Pitch, .int .i64 k0.Height, .int .i64 k0.Walls, .int .i64 k0.Top, .int .i64 k0.Bottom, .int .i64 k0.Pattern, .int .i64 k0.Spacing, .bool k0.Support, .int .i64 k0.Reach, .int .i64 k0.Gap, .int .i64 k0.Brim, .int .i64 k0.Skirt, .int .i64 k0.Drop, .int .i64 k0.Feed, .int .i64 k0.Travel, .int .i64 k0.Retract, .int .i64 k0.MinTime, .int .i64 k0.MinFeed, .int .i64 k0.Nozzle, .int .i64 k0.Bed]), (9, .box 0 [.int .i64 x.1.X, .int .i64 x.1.Y])]⟩)
theorem t_additivelaw40_EmitFollows_L0_ok {k0 : api_Settings} {k1 : (FS api_Cmd)} {k2 : (FS api_Cell)} {k3 : Int} {k4 : api_Cell} {s : (api_Cell × Int)} {r : (Bool ⊕ (api_Cell × Int))} (h : loopT (t_additivelaw40_EmitFollows_L0 k0 k1 k2 k3 k4) bigN s = some r) : LK env [] 0 [3, 5, 7, 9, 10, 11, 12] c13_L0 (some (t_additivelaw40_EmitFollows_L0_st k0 k1 k2 k3 k4 s)) = some (t_additivelaw40_EmitFollows_L0_out k0 k1 k2 k3 k4 r) := loop_walk (st := t_additivelaw40_EmitFollows_L0_st k0 k1 k2 k3 k4) (out := t_additivelaw40_EmitFollows_L0_out k0 k1 k2 k3 k4) (by
 clear h s r
 rintro ⟨s0, s1⟩ x h
 simp only [t_additivelaw40_EmitFollows_L0] at h
 by_cases c31 : (bnot (band (ieq s0.X k4.X) (band (ieq s0.Y k4.Y) true))) = true
 · rw [if_pos c31] at h
   cases h33 : t_additivelaw40_towards s0.X k4.X with
   | none => (rw [h33] at h; cases h)
   | some v34 =>
    simp only [h33] at h
    have f32 := t_additivelaw40_towards_ok h33
    cases h36 : t_additivelaw40_towards s0.Y k4.Y with
    | none => (rw [h36] at h; cases h)
    | some v37 =>
     simp only [h36] at h
     have f35 := t_additivelaw40_towards_ok h36
     cases h39 : gOpt (bnot (ige s1 (flen k2))) (fget k2 s1) with
     | none => (rw [h39] at h; cases h)
     | some v40 =>
      simp only [h39] at h
      have f38 := fun (q0 : (ige s1 (flen k2)) = false) => iaddr_F (e := e_api_Cell) (gOpt_getD (⟨0, 0⟩ : api_Cell) h39 (bnot_mk q0))
      by_cases c41 : (bor (ige s1 (flen k2)) (bnot (band (ieq (((v40.getD (⟨0, 0⟩ : api_Cell))).X) v34) (band (ieq (((v40.getD (⟨0, 0⟩ : api_Cell))).Y) v37) true)))) = true
      · rw [if_pos c41] at h
        cases h
        show LK env [] 0 [3, 5, 7, 9, 10, 11, 12] c13_L0 (some (t_additivelaw40_EmitFollows_L0_st _ _ _ _ _ _)) = some (t_additivelaw40_EmitFollows_L0_out _ _ _ _ _ _)
        simp only [t_additivelaw40_EmitFollows_L0_st, t_additivelaw40_EmitFollows_L0_out]
        rw [LK_step]
        rcases tof (ieq s0.X k4.X) with a42 | a42
        · rcases tof (ieq s0.Y k4.Y) with a43 | a43
          · simp [a42, a43] at c31
          · rcases tof (ige s1 (flen k2)) with a44 | a44
            · simp (maxSteps := 4000000) [a42, a43, a44, f32, f35, f38]
            · rcases tof (ieq (((v40.getD (⟨0, 0⟩ : api_Cell))).X) v34) with a45 | a45
              · rcases tof (ieq (((v40.getD (⟨0, 0⟩ : api_Cell))).Y) v37) with a46 | a46
                · simp [a42, a43, a44, a45, a46] at c41
                · simp (maxSteps := 4000000) [a42, a43, a44, a45, a46, f32, f35, f38]
              · simp (maxSteps := 4000000) [a42, a43, a44, a45, f32, f35, f38]
        · rcases tof (ige s1 (flen k2)) with a47 | a47
          · simp (maxSteps := 4000000) [a42, a47, f32, f35, f38]
          · rcases tof (ieq (((v40.getD (⟨0, 0⟩ : api_Cell))).X) v34) with a48 | a48
            · rcases tof (ieq (((v40.getD (⟨0, 0⟩ : api_Cell))).Y) v37) with a49 | a49
              · simp [a42, a47, a48, a49] at c41
              · simp (maxSteps := 4000000) [a42, a47, a48, a49, f32, f35, f38]
            · simp (maxSteps := 4000000) [a42, a47, a48, f32, f35, f38]
      · rw [if_neg c41] at h
        rw [Bool.not_eq_true] at c41
        cases h
        show LK env [] 0 [3, 5, 7, 9, 10, 11, 12] c13_L0 (some (t_additivelaw40_EmitFollows_L0_st _ _ _ _ _ _)) = LK env [] 0 [3, 5, 7, 9, 10, 11, 12] c13_L0 (some (t_additivelaw40_EmitFollows_L0_st _ _ _ _ _ _))
        simp only [t_additivelaw40_EmitFollows_L0_st]
        rw [LK_step]
        rcases tof (ieq s0.X k4.X) with a50 | a50
        · rcases tof (ieq s0.Y k4.Y) with a51 | a51
          · simp [a50, a51] at c31
          · rcases tof (ige s1 (flen k2)) with a52 | a52
            · simp [a50, a51, a52] at c41
            · rcases tof (ieq (((v40.getD (⟨0, 0⟩ : api_Cell))).X) v34) with a53 | a53
              · rcases tof (ieq (((v40.getD (⟨0, 0⟩ : api_Cell))).Y) v37) with a54 | a54
                · simp (maxSteps := 4000000) [a50, a51, a52, a53, a54, f32, f35, f38]
                · simp [a50, a51, a52, a53, a54] at c41
              · simp [a50, a51, a52, a53] at c41
        · rcases tof (ige s1 (flen k2)) with a55 | a55
          · simp [a50, a55] at c41
          · rcases tof (ieq (((v40.getD (⟨0, 0⟩ : api_Cell))).X) v34) with a56 | a56
            · rcases tof (ieq (((v40.getD (⟨0, 0⟩ : api_Cell))).Y) v37) with a57 | a57
              · simp (maxSteps := 4000000) [a50, a55, a56, a57, f32, f35, f38]
              · simp [a50, a55, a56, a57] at c41
            · simp [a50, a55, a56] at c41
 · rw [if_neg c31] at h
   rw [Bool.not_eq_true] at c31
   cases h
   show LK env [] 0 [3, 5, 7, 9, 10, 11, 12] c13_L0 (some (t_additivelaw40_EmitFollows_L0_st _ _ _ _ _ _)) = some (t_additivelaw40_EmitFollows_L0_out _ _ _ _ _ _)
   simp only [t_additivelaw40_EmitFollows_L0_st, t_additivelaw40_EmitFollows_L0_out]
   rw [LK_step]
   rcases tof (ieq s0.X k4.X) with a58 | a58
   · rcases tof (ieq s0.Y k4.Y) with a59 | a59
     · simp (maxSteps := 4000000) [a58, a59]
     · simp [a58, a59] at c31
   · simp [a58] at c31) bigN s r h
def t_additivelaw40_EmitFollows_L1 (k0 : api_Settings) (k1 : (FS api_Cmd)) (k2 : (FS api_Cell)) (s : (api_Cell × Int × Int)) : Option (LR (api_Cell × Int × Int) (Bool ⊕ Int)) := match s with
 | (s0, s1, s2) => (if (ilt s2 (flen k1)) = true then (match fget k1 s2 with
 | none => none
 | some v15 => (if (ieq (iand .i64 v15.Has 1) 0) = true then some (.nx (s0, s1, (iadd .i64 s2 1)))
 else (if ieq k0.Pitch 0 = true then none else (if ieq k0.Pitch 0 = true then none else (if (bor (bor (bor (ieq (iand .i64 v15.Has 2) 0) (ine (iadd .i64 (imul .i64 (iquo .i64 (isub .i64 v15.X (iquo .i64 k0.Pitch 2)) k0.Pitch) k0.Pitch) (iquo .i64 k0.Pitch 2)) v15.X)) (ine (iadd .i64 (imul .i64 (iquo .i64 (isub .i64 v15.Y (iquo .i64 k0.Pitch 2)) k0.Pitch) k0.Pitch) (iquo .i64 k0.Pitch 2)) v15.Y)) (band (beqB (ieq s0.X (iquo .i64 (isub .i64 v15.X (iquo .i64 k0.Pitch 2)) k0.Pitch)) (ieq s0.Y (iquo .i64 (isub .i64 v15.Y (iquo .i64 k0.Pitch 2)) k0.Pitch))) true)) = true then some (.dn (.inl false))
 else (match loopT (t_additivelaw40_EmitFollows_L0 k0 k1 k2 s2 (⟨(iquo .i64 (isub .i64 v15.X (iquo .i64 k0.Pitch 2)) k0.Pitch), (iquo .i64 (isub .i64 v15.Y (iquo .i64 k0.Pitch 2)) k0.Pitch)⟩ : api_Cell)) bigN (s0, s1) with
 | none => none
 | some v37 => (match v37 with
 | .inl v37x => some (.dn (.inl v37x))
 | .inr v37x => some (.nx (v37x.1, v37x.2, (iadd .i64 s2 1))))))))))
 else some (.dn (.inr s1)))
def t_additivelaw40_EmitFollows_L1_st (k0 : api_Settings) (k1 : (FS api_Cmd)) (k2 : (FS api_Cell)) (s : (api_Cell × Int × Int)) : St := match s with
 | (s0, s1, s2) => ⟨fr [(3, .ptr 3 0 0), (5, encF e_api_Cmd k1), (7, encF e_api_Cell k2), (9, .ptr 9 0 0), (10, .int .i64 s1), (11, .int .i64 s2)], hl [(3, .box 0 [.int .i64 k0.Pitch, .int .i64 k0.Height, .int .i64 k0.Walls, .int .i64 k0.Top, .int .i64 k0.Bottom, .int .i64 k0.Pattern, .int .i64 k0.Spacing, .bool k0.Support, .int .i64 k0.Reach, .int .i64 k0.Gap, .int .i64 k0.Brim, .int .i64 k0.Skirt, .int .i64 k0.Drop, .int .i64 k0.Feed, .int .i64 k0.Travel, .int .i64 k0.Retract, .int .i64 k0.MinTime, .int .i64 k0.MinFeed, .int .i64 k0.Nozzle, .int .i64 k0.Bed]), (9, .box 0 [.int .i64 s0.X, .int .i64 s0.Y])]⟩
def t_additivelaw40_EmitFollows_L1_out (k0 : api_Settings) (k1 : (FS api_Cmd)) (k2 : (FS api_Cell)) (x : (Bool ⊕ Int)) : LE × St := match x with
 | .inl x => (.ret, ⟨fr [(4, .bool x)], hl []⟩)
 | .inr x => (.exit 0, ⟨fr [(7, encF e_api_Cell k2), (10, .int .i64 x)], hl []⟩)
theorem t_additivelaw40_EmitFollows_L1_ok {k0 : api_Settings} {k1 : (FS api_Cmd)} {k2 : (FS api_Cell)} {s : (api_Cell × Int × Int)} {r : (Bool ⊕ Int)} (h : loopT (t_additivelaw40_EmitFollows_L1 k0 k1 k2) bigN s = some r) : LK env [] 0 [3, 5, 7, 9, 10, 11] c13_L1 (some (t_additivelaw40_EmitFollows_L1_st k0 k1 k2 s)) = some (t_additivelaw40_EmitFollows_L1_out k0 k1 k2 r) := loop_walk (st := t_additivelaw40_EmitFollows_L1_st k0 k1 k2) (out := t_additivelaw40_EmitFollows_L1_out k0 k1 k2) (by
 clear h s r
 rintro ⟨s0, s1, s2⟩ x h
 simp only [t_additivelaw40_EmitFollows_L1] at h
 by_cases c14 : (ilt s2 (flen k1)) = true
 · rw [if_pos c14] at h
   cases h16 : fget k1 s2 with
   | none => (rw [h16] at h; cases h)
   | some v17 =>
    simp only [h16] at h
    have f15 := iaddr_F (e := e_api_Cmd) h16
    by_cases c18 : (ieq (iand .i64 v17.Has 1) 0) = true
    · rw [if_pos c18] at h
      cases h
      show LK env [] 0 [3, 5, 7, 9, 10, 11] c13_L1 (some (t_additivelaw40_EmitFollows_L1_st _ _ _ _)) = LK env [] 0 [3, 5, 7, 9, 10, 11] c13_L1 (some (t_additivelaw40_EmitFollows_L1_st _ _ _ _))
      simp only [t_additivelaw40_EmitFollows_L1_st]
      rw [LK_step]
      simp (maxSteps := 4000000) [c14, c18, f15]
    · rw [if_neg c18] at h
      rw [Bool.not_eq_true] at c18
      by_cases h20 : ieq k0.Pitch 0 = true
      · rw [if_pos h20] at h; cases h
      · rw [if_neg h20] at h
        rw [Bool.not_eq_true] at h20
        by_cases h22 : ieq k0.Pitch 0 = true
        · rw [if_pos h22] at h; cases h
        · rw [if_neg h22] at h
          rw [Bool.not_eq_true] at h22
          by_cases c26 : (bor (bor (bor (ieq (iand .i64 v17.Has 2) 0) (ine (iadd .i64 (imul .i64 (iquo .i64 (isub .i64 v17.X (iquo .i64 k0.Pitch 2)) k0.Pitch) k0.Pitch) (iquo .i64 k0.Pitch 2)) v17.X)) (ine (iadd .i64 (imul .i64 (iquo .i64 (isub .i64 v17.Y (iquo .i64 k0.Pitch 2)) k0.Pitch) k0.Pitch) (iquo .i64 k0.Pitch 2)) v17.Y)) (band (beqB (ieq s0.X (iquo .i64 (isub .i64 v17.X (iquo .i64 k0.Pitch 2)) k0.Pitch)) (ieq s0.Y (iquo .i64 (isub .i64 v17.Y (iquo .i64 k0.Pitch 2)) k0.Pitch))) true)) = true
          · rw [if_pos c26] at h
            cases h
            show LK env [] 0 [3, 5, 7, 9, 10, 11] c13_L1 (some (t_additivelaw40_EmitFollows_L1_st _ _ _ _)) = some (t_additivelaw40_EmitFollows_L1_out _ _ _ _)
            simp only [t_additivelaw40_EmitFollows_L1_st, t_additivelaw40_EmitFollows_L1_out]
            rw [LK_step]
            rcases tof (ieq (iand .i64 v17.Has 2) 0) with a27 | a27
            · simp (maxSteps := 4000000) [c14, c18, a27, f15, (show ieq 2 0 = false from rfl), h20, (show ieq 2 0 = false from rfl), h22, (show ieq 2 0 = false from rfl), (show ieq 2 0 = false from rfl)]
            · rcases tof (ine (iadd .i64 (imul .i64 (iquo .i64 (isub .i64 v17.X (iquo .i64 k0.Pitch 2)) k0.Pitch) k0.Pitch) (iquo .i64 k0.Pitch 2)) v17.X) with a28 | a28
              · simp (maxSteps := 4000000) [c14, c18, a27, a28, f15, (show ieq 2 0 = false from rfl), h20, (show ieq 2 0 = false from rfl), h22, (show ieq 2 0 = false from rfl), (show ieq 2 0 = false from rfl)]
              · rcases tof (ine (iadd .i64 (imul .i64 (iquo .i64 (isub .i64 v17.Y (iquo .i64 k0.Pitch 2)) k0.Pitch) k0.Pitch) (iquo .i64 k0.Pitch 2)) v17.Y) with a29 | a29
                · simp (maxSteps := 4000000) [c14, c18, a27, a28, a29, f15, (show ieq 2 0 = false from rfl), h20, (show ieq 2 0 = false from rfl), h22, (show ieq 2 0 = false from rfl), (show ieq 2 0 = false from rfl)]
                · rcases tof (beqB (ieq s0.X (iquo .i64 (isub .i64 v17.X (iquo .i64 k0.Pitch 2)) k0.Pitch)) (ieq s0.Y (iquo .i64 (isub .i64 v17.Y (iquo .i64 k0.Pitch 2)) k0.Pitch))) with a30 | a30
                  · simp (maxSteps := 4000000) [c14, c18, a27, a28, a29, a30, f15, (show ieq 2 0 = false from rfl), h20, (show ieq 2 0 = false from rfl), h22, (show ieq 2 0 = false from rfl), (show ieq 2 0 = false from rfl)]
                  · simp [c14, c18, a27, a28, a29, a30] at c26
          · rw [if_neg c26] at h
            rw [Bool.not_eq_true] at c26
            cases h60 : loopT (t_additivelaw40_EmitFollows_L0 k0 k1 k2 s2 (⟨(iquo .i64 (isub .i64 v17.X (iquo .i64 k0.Pitch 2)) k0.Pitch), (iquo .i64 (isub .i64 v17.Y (iquo .i64 k0.Pitch 2)) k0.Pitch)⟩ : api_Cell)) bigN (s0, s1) with
            | none => (rw [h60] at h; cases h)
            | some v61 =>
             simp only [h60] at h
             have f62 := t_additivelaw40_EmitFollows_L0_ok h60
             cases v61 with
             | inl v61x =>
              try simp only at h
              simp only [t_additivelaw40_EmitFollows_L0_st, t_additivelaw40_EmitFollows_L0_out, fset_len] at f62
              try simp only [fcase_nil, fcase_lst, fcase_fsnoc, fcase_fapp, fcase_fset, fcase_frep, fcase_flit, fcase_flst] at f62
              cases h
              show LK env [] 0 [3, 5, 7, 9, 10, 11] c13_L1 (some (t_additivelaw40_EmitFollows_L1_st _ _ _ _)) = some (t_additivelaw40_EmitFollows_L1_out _ _ _ _)
              simp only [t_additivelaw40_EmitFollows_L1_st, t_additivelaw40_EmitFollows_L1_out]
              rw [LK_step]
              rcases tof (ieq (iand .i64 v17.Has 2) 0) with a63 | a63
              · simp [c14, c18, a63] at c26
              · rcases tof (ine (iadd .i64 (imul .i64 (iquo .i64 (isub .i64 v17.X (iquo .i64 k0.Pitch 2)) k0.Pitch) k0.Pitch) (iquo .i64 k0.Pitch 2)) v17.X) with a64 | a64
                · simp [c14, c18, a63, a64] at c26
                · rcases tof (ine (iadd .i64 (imul .i64 (iquo .i64 (isub .i64 v17.Y (iquo .i64 k0.Pitch 2)) k0.Pitch) k0.Pitch) (iquo .i64 k0.Pitch 2)) v17.Y) with a65 | a65
                  · simp [c14, c18, a63, a64, a65] at c26
                  · rcases tof (beqB (ieq s0.X (iquo .i64 (isub .i64 v17.X (iquo .i64 k0.Pitch 2)) k0.Pitch)) (ieq s0.Y (iquo .i64 (isub .i64 v17.Y (iquo .i64 k0.Pitch 2)) k0.Pitch))) with a66 | a66
                    · simp [c14, c18, a63, a64, a65, a66] at c26
                    · try simp only [c14, c18, a63, a64, a65, a66] at f62
                      simp (maxSteps := 4000000) [c14, c18, a63, a64, a65, a66, f15, (show ieq 2 0 = false from rfl), h20, (show ieq 2 0 = false from rfl), h22, (show ieq 2 0 = false from rfl), (show ieq 2 0 = false from rfl), f62]
             | inr v61x =>
              try simp only at h
              simp only [t_additivelaw40_EmitFollows_L0_st, t_additivelaw40_EmitFollows_L0_out, fset_len] at f62
              try simp only [fcase_nil, fcase_lst, fcase_fsnoc, fcase_fapp, fcase_fset, fcase_frep, fcase_flit, fcase_flst] at f62
              cases h
              show LK env [] 0 [3, 5, 7, 9, 10, 11] c13_L1 (some (t_additivelaw40_EmitFollows_L1_st _ _ _ _)) = LK env [] 0 [3, 5, 7, 9, 10, 11] c13_L1 (some (t_additivelaw40_EmitFollows_L1_st _ _ _ _))
              simp only [t_additivelaw40_EmitFollows_L1_st]
              rw [LK_step]
              rcases tof (ieq (iand .i64 v17.Has 2) 0) with a67 | a67
              · simp [c14, c18, a67] at c26
              · rcases tof (ine (iadd .i64 (imul .i64 (iquo .i64 (isub .i64 v17.X (iquo .i64 k0.Pitch 2)) k0.Pitch) k0.Pitch) (iquo .i64 k0.Pitch 2)) v17.X) with a68 | a68
                · simp [c14, c18, a67, a68] at c26
                · rcases tof (ine (iadd .i64 (imul .i64 (iquo .i64 (isub .i64 v17.Y (iquo .i64 k0.Pitch 2)) k0.Pitch) k0.Pitch) (iquo .i64 k0.Pitch 2)) v17.Y) with a69 | a69
                  · simp [c14, c18, a67, a68, a69] at c26
                  · rcases tof (beqB (ieq s0.X (iquo .i64 (isub .i64 v17.X (iquo .i64 k0.Pitch 2)) k0.Pitch)) (ieq s0.Y (iquo .i64 (isub .i64 v17.Y (iquo .i64 k0.Pitch 2)) k0.Pitch))) with a70 | a70
                    · simp [c14, c18, a67, a68, a69, a70] at c26
                    · try simp only [c14, c18, a67, a68, a69, a70] at f62
                      simp (maxSteps := 4000000) [c14, c18, a67, a68, a69, a70, f15, (show ieq 2 0 = false from rfl), h20, (show ieq 2 0 = false from rfl), h22, (show ieq 2 0 = false from rfl), (show ieq 2 0 = false from rfl), f62]
 · rw [if_neg c14] at h
   rw [Bool.not_eq_true] at c14
   cases h
   show LK env [] 0 [3, 5, 7, 9, 10, 11] c13_L1 (some (t_additivelaw40_EmitFollows_L1_st _ _ _ _)) = some (t_additivelaw40_EmitFollows_L1_out _ _ _ _)
   simp only [t_additivelaw40_EmitFollows_L1_st, t_additivelaw40_EmitFollows_L1_out]
   rw [LK_step]
   simp (maxSteps := 4000000) [c14]) bigN s r h
def t_additivelaw40_EmitFollows (p0 : (FS api_Op)) (p1 : api_Settings) : Option Bool := (match t_additivelaw40_few p0 with
 | none => none
 | some v3 => (match t_emit_Commands v3 p1 with
 | none => none
 | some v6 => (match t_additivelaw40_visited v3 with
 | none => none
 | some v9 => (if (bor (ine v6.2 0) (bnot v9.2)) = true then some u_additivelaw40_awake
 else (match loopT (t_additivelaw40_EmitFollows_L1 p1 v6.1 v9.1) bigN ((⟨0, 0⟩ : api_Cell), 0, 0) with
 | none => none
 | some v40 => (match v40 with
 | .inl v40x => some v40x
 | .inr v40x => some (band (ieq v40x (flen v9.1)) u_additivelaw40_awake)))))))
theorem t_additivelaw40_EmitFollows_ok {p0 : (FS api_Op)} {p1 : api_Settings} {r : Bool} (h : t_additivelaw40_EmitFollows p0 p1 = some r) : FC env 13 [encF e_api_Op p0, .agg [.int .i64 p1.Pitch, .int .i64 p1.Height, .int .i64 p1.Walls, .int .i64 p1.Top, .int .i64 p1.Bottom, .int .i64 p1.Pattern, .int .i64 p1.Spacing, .bool p1.Support, .int .i64 p1.Reach, .int .i64 p1.Gap, .int .i64 p1.Brim, .int .i64 p1.Skirt, .int .i64 p1.Drop, .int .i64 p1.Feed, .int .i64 p1.Travel, .int .i64 p1.Retract, .int .i64 p1.MinTime, .int .i64 p1.MinFeed, .int .i64 p1.Nozzle, .int .i64 p1.Bed]] none = some (.bool r, fun _ => none) := by
 unfold t_additivelaw40_EmitFollows at h
 cases h2 : t_additivelaw40_few p0 with
 | none => (rw [h2] at h; cases h)
 | some v3 =>
  simp only [h2] at h
  have f1 := t_additivelaw40_few_ok h2
  cases h5 : t_emit_Commands v3 p1 with
  | none => (rw [h5] at h; cases h)
  | some v6 =>
   simp only [h5] at h
   have f4 := t_emit_Commands_ok h5
   cases h8 : t_additivelaw40_visited v3 with
   | none => (rw [h8] at h; cases h)
   | some v9 =>
    simp only [h8] at h
    have f7 := t_additivelaw40_visited_ok h8
    by_cases c10 : (bor (ine v6.2 0) (bnot v9.2)) = true
    · rw [if_pos c10] at h
      have f11 := u_additivelaw40_awake_ok 
      cases h
      refine FC_pure (lf := lf13) rfl rfl rfl ?_
      simp only [lf13, lc13]
      rcases tof (ine v6.2 0) with a12 | a12
      · simp (maxSteps := 4000000) [a12, f1, f4, f7, f11]
      · rcases tof v9.2 with a13 | a13
        · simp [a12, a13] at c10
        · simp (maxSteps := 4000000) [a12, a13, f1, f4, f7, f11]
    · rw [if_neg c10] at h
      rw [Bool.not_eq_true] at c10
      cases h71 : loopT (t_additivelaw40_EmitFollows_L1 p1 v6.1 v9.1) bigN ((⟨0, 0⟩ : api_Cell), 0, 0) with
      | none => (rw [h71] at h; cases h)
      | some v72 =>
       simp only [h71] at h
       have f73 := t_additivelaw40_EmitFollows_L1_ok h71
       cases v72 with
       | inl v72x =>
        try simp only at h
        simp only [t_additivelaw40_EmitFollows_L1_st, t_additivelaw40_EmitFollows_L1_out, fset_len] at f73
        try simp only [fcase_nil, fcase_lst, fcase_fsnoc, fcase_fapp, fcase_fset, fcase_frep, fcase_flit, fcase_flst] at f73
        cases h
        refine FC_pure (lf := lf13) rfl rfl rfl ?_
        simp only [lf13, lc13]
        rcases tof (ine v6.2 0) with a74 | a74
        · simp [a74] at c10
        · rcases tof v9.2 with a75 | a75
          · try simp only [a74, a75] at f73
            simp (maxSteps := 4000000) [a74, a75, f1, f4, f7, f73]
          · simp [a74, a75] at c10
       | inr v72x =>
        try simp only at h
        simp only [t_additivelaw40_EmitFollows_L1_st, t_additivelaw40_EmitFollows_L1_out, fset_len] at f73
        try simp only [fcase_nil, fcase_lst, fcase_fsnoc, fcase_fapp, fcase_fset, fcase_frep, fcase_flit, fcase_flst] at f73
        have f76 := u_additivelaw40_awake_ok 
        cases h
        refine FC_pure (lf := lf13) rfl rfl rfl ?_
        simp only [lf13, lc13]
        rcases tof (ine v6.2 0) with a77 | a77
        · simp [a77] at c10
        · rcases tof v9.2 with a78 | a78
          · rcases tof (ieq v72x (flen v9.1)) with a79 | a79
            · try simp only [a77, a78, a79] at f73
              simp (maxSteps := 4000000) [a77, a78, a79, f1, f4, f7, f73, f76]
            · try simp only [a77, a78, a79] at f73
              simp (maxSteps := 4000000) [a77, a78, a79, f1, f4, f7, f73, f76]
          · simp [a77, a78] at c10
end Go.Proofs.Ytchiiiahgmfofaa
