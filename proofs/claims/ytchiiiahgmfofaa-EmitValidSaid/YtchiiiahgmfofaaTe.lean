/- Typed functions of this seat, each with the proof that the code computes it; by program (tg3.py). -/
import Derived.Test.YtchiiiahgmfofaaCode
import Derived.Test.YtchiiiahgmfofaaVu
import Derived.KernelRfl
namespace Go.Proofs.Ytchiiiahgmfofaa
open Go Go.Vv Go.Proofs
set_option linter.unusedSimpArgs false
set_option linter.unusedVariables false
set_option maxRecDepth 100000
set_option maxHeartbeats 4000000
def e_i64 (x : Int) : List AV := [.int .i64 x]
instance : EncOK 1 e_i64 := ⟨fun _ => rfl, fun _ => by simp [e_i64]⟩
attribute [simp] e_i64
structure api_Cell where
  X : Int
  Y : Int
def e_api_Cell (x : api_Cell) : List AV := [.int .i64 x.X, .int .i64 x.Y]
instance : EncOK 2 e_api_Cell := ⟨fun _ => rfl, fun _ => by simp [e_api_Cell]⟩
attribute [simp] e_api_Cell
def e_sl_api_Cell (x : (FS api_Cell)) : List AV := [encF e_api_Cell x]
instance : EncOK 1 e_sl_api_Cell := ⟨fun _ => rfl, fun _ => by simp [e_sl_api_Cell]⟩
attribute [simp] e_sl_api_Cell
structure api_Op where
  Kind : Int
  Role : Int
  Layer : Int
  Z : Int
  Speed : Int
  Cells : (FS api_Cell)
def e_api_Op (x : api_Op) : List AV := [.int .i64 x.Kind, .int .i64 x.Role, .int .i64 x.Layer, .int .i64 x.Z, .int .i64 x.Speed, encF e_api_Cell x.Cells]
instance : EncOK 6 e_api_Op := ⟨fun _ => rfl, fun _ => by simp [e_api_Op]⟩
attribute [simp] e_api_Op
def e_bool (x : Bool) : List AV := [.bool x]
instance : EncOK 1 e_bool := ⟨fun _ => rfl, fun _ => by simp [e_bool]⟩
attribute [simp] e_bool
structure api_Settings where
  Pitch : Int
  Height : Int
  Walls : Int
  Top : Int
  Bottom : Int
  Pattern : Int
  Spacing : Int
  Support : Bool
  Reach : Int
  Gap : Int
  Brim : Int
  Skirt : Int
  Drop : Int
  Feed : Int
  Travel : Int
  Retract : Int
  MinTime : Int
  MinFeed : Int
  Nozzle : Int
  Bed : Int
def e_api_Settings (x : api_Settings) : List AV := [.int .i64 x.Pitch, .int .i64 x.Height, .int .i64 x.Walls, .int .i64 x.Top, .int .i64 x.Bottom, .int .i64 x.Pattern, .int .i64 x.Spacing, .bool x.Support, .int .i64 x.Reach, .int .i64 x.Gap, .int .i64 x.Brim, .int .i64 x.Skirt, .int .i64 x.Drop, .int .i64 x.Feed, .int .i64 x.Travel, .int .i64 x.Retract, .int .i64 x.MinTime, .int .i64 x.MinFeed, .int .i64 x.Nozzle, .int .i64 x.Bed]
instance : EncOK 20 e_api_Settings := ⟨fun _ => rfl, fun _ => by simp [e_api_Settings]⟩
attribute [simp] e_api_Settings
structure flow_faults where
  grid : Bool
  solid : Bool
  pattern : Bool
  around : Bool
  filament : Bool
  speeds : Bool
  heat : Bool
def e_flow_faults (x : flow_faults) : List AV := [.bool x.grid, .bool x.solid, .bool x.pattern, .bool x.around, .bool x.filament, .bool x.speeds, .bool x.heat]
instance : EncOK 7 e_flow_faults := ⟨fun _ => rfl, fun _ => by simp [e_flow_faults]⟩
attribute [simp] e_flow_faults
structure api_Cmd where
  Code : Int
  Has : Int
  X : Int
  Y : Int
  Z : Int
  E : Int
  F : Int
  S : Int
def e_api_Cmd (x : api_Cmd) : List AV := [.int .i64 x.Code, .int .i64 x.Has, .int .i64 x.X, .int .i64 x.Y, .int .i64 x.Z, .int .i64 x.E, .int .i64 x.F, .int .i64 x.S]
instance : EncOK 8 e_api_Cmd := ⟨fun _ => rfl, fun _ => by simp [e_api_Cmd]⟩
attribute [simp] e_api_Cmd
def e_sl_api_Cmd (x : (FS api_Cmd)) : List AV := [encF e_api_Cmd x]
instance : EncOK 1 e_sl_api_Cmd := ⟨fun _ => rfl, fun _ => by simp [e_sl_api_Cmd]⟩
attribute [simp] e_sl_api_Cmd
structure emit_emitter where
  settings : api_Settings
  amount : Int
  cells : Int
  nozzle : api_Cell
  speed : Int
  has : Bool
  out : (FS api_Cmd)
  code : Int
def e_emit_emitter (x : emit_emitter) : List AV := [.int .i64 x.settings.Pitch, .int .i64 x.settings.Height, .int .i64 x.settings.Walls, .int .i64 x.settings.Top, .int .i64 x.settings.Bottom, .int .i64 x.settings.Pattern, .int .i64 x.settings.Spacing, .bool x.settings.Support, .int .i64 x.settings.Reach, .int .i64 x.settings.Gap, .int .i64 x.settings.Brim, .int .i64 x.settings.Skirt, .int .i64 x.settings.Drop, .int .i64 x.settings.Feed, .int .i64 x.settings.Travel, .int .i64 x.settings.Retract, .int .i64 x.settings.MinTime, .int .i64 x.settings.MinFeed, .int .i64 x.settings.Nozzle, .int .i64 x.settings.Bed, .int .i64 x.amount, .int .i64 x.cells, .int .i64 x.nozzle.X, .int .i64 x.nozzle.Y, .int .i64 x.speed, .bool x.has, encF e_api_Cmd x.out, .int .i64 x.code]
instance : EncOK 28 e_emit_emitter := ⟨fun _ => rfl, fun _ => by simp [e_emit_emitter]⟩
attribute [simp] e_emit_emitter
structure api_Pt where
  X : Int
  Y : Int
def e_api_Pt (x : api_Pt) : List AV := [.int .i64 x.X, .int .i64 x.Y]
instance : EncOK 2 e_api_Pt := ⟨fun _ => rfl, fun _ => by simp [e_api_Pt]⟩
attribute [simp] e_api_Pt

/-! additivelaw40.few -/
attribute [simp] c35_0 c35_1 c35_2 c35_3 c35_4 c35_5 c35_6 c35_7 c35_8 c35_10
theorem c35_L0_u (Γ : Env) (ps : List Nat) (σ : St) : EC Γ ps 0 c35_L0 σ = EC Γ ps 0 (.seq (.seq (.reg false c35_3) (.cond (.t 13) .skip (.seq (.trim [3]) (.exit 0)))) (.seq (.blk 1 (.seq (.reg false c35_4) (.seq (.seq (.reg false c35_5) (.cond (.t 23) (.reg false c35_6) .skip)) (.reg false c35_7)))) (.reg false c35_8))) σ := rfl
attribute [simp ↓] c35_L0_u
def t_additivelaw40_few_L0 (k0 : (FS api_Op)) (s : ((FS api_Op) × Int)) : Option (LR ((FS api_Op) × Int) (FS api_Op)) := match s with
 | (s0, s1) => (if (band (ilt s1 (flen k0)) (ilt s1 30)) = true then (match fget k0 s1 with
 | none => none
 | some v4 => (if (igt (flen v4.Cells) 40) = true then (match fsl v4.Cells 0 40 with
 | none => none
 | some v8 => (if fits 64 ((flen s0) + 1) = true then some (.nx ((fsnoc s0 (⟨v4.Kind, v4.Role, v4.Layer, v4.Z, v4.Speed, v8⟩ : api_Op)), (iadd .i64 s1 1))) else none))
 else (if fits 64 ((flen s0) + 1) = true then some (.nx ((fsnoc s0 v4), (iadd .i64 s1 1))) else none)))
 else some (.dn s0))
def t_additivelaw40_few_L0_st (k0 : (FS api_Op)) (s : ((FS api_Op) × Int)) : St := match s with
 | (s0, s1) => (fcase s0 (⟨fr [(0, encF e_api_Op k0), (3, .nils), (4, .int .i64 s1)], hl []⟩)
  (fun l0 => ⟨fr [(0, encF e_api_Op k0), (3, .arr 3 0 0 l0.l.length), (4, .int .i64 s1)], hl [(3, .arr 0 6 101 (cellsE e_api_Op l0.l) false)]⟩))
def t_additivelaw40_few_L0_out (k0 : (FS api_Op)) (x : (FS api_Op)) : LE × St := (fcase x (.exit 0, ⟨fr [(3, .nils)], hl []⟩)
  (fun l0 => (.exit 0, ⟨fr [(3, .arr 3 0 0 l0.l.length)], hl [(3, .arr 0 6 101 (cellsE e_api_Op l0.l) false)]⟩)))
theorem t_additivelaw40_few_L0_ok {k0 : (FS api_Op)} {s : ((FS api_Op) × Int)} {r : (FS api_Op)} (h : loopT (t_additivelaw40_few_L0 k0) bigN s = some r) : LK env [] 0 [0, 3, 4] c35_L0 (some (t_additivelaw40_few_L0_st k0 s)) = some (t_additivelaw40_few_L0_out k0 r) := loop_walk (st := t_additivelaw40_few_L0_st k0) (out := t_additivelaw40_few_L0_out k0) (by
 clear h s r
 rintro ⟨s0, s1⟩ x h
 simp only [t_additivelaw40_few_L0] at h
 cases e2 : s0 with
 | nil =>
  try simp only [e2, flen_nil] at h
  by_cases c3 : (band (ilt s1 (flen k0)) (ilt s1 30)) = true
  · rw [if_pos c3] at h
    cases h5 : fget k0 s1 with
    | none => (rw [h5] at h; cases h)
    | some v6 =>
     simp only [h5] at h
     have f4 := iaddr_F (e := e_api_Op) h5
     by_cases c7 : (igt (flen v6.Cells) 40) = true
     · rw [if_pos c7] at h
       cases h9 : fsl v6.Cells 0 40 with
       | none => (rw [h9] at h; cases h)
       | some v10 =>
        simp only [h9] at h
        have f8 := slice_Fhi (e := e_api_Cell) h9
        by_cases h12 : fits 64 (0 + 1) = true
        · rw [if_pos h12] at h
          have f11 := fun H g0 hg y => @app_nil _ _ e_api_Op _ (⟨v6.Kind, v6.Role, v6.Layer, v6.Z, v6.Speed, v10⟩ : api_Op) 64 h12 (by decide) H g0 101 y hg
          simp only [e_api_Op] at f11
          cases h
          show LK env [] 0 [0, 3, 4] c35_L0 (some (t_additivelaw40_few_L0_st _ _)) = LK env [] 0 [0, 3, 4] c35_L0 (some (t_additivelaw40_few_L0_st _ _))
          simp only [t_additivelaw40_few_L0_st, e2]
          rw [LK_step]
          rcases tof (ilt s1 (flen k0)) with a13 | a13
          · rcases tof (ilt s1 30) with a14 | a14
            · simp (maxSteps := 4000000) [a13, a14, c7, e2, f4, f8, f11]
            · simp [a13, a14] at c3
          · simp [a13] at c3
        · rw [if_neg h12] at h; cases h
     · rw [if_neg c7] at h
       rw [Bool.not_eq_true] at c7
       by_cases h16 : fits 64 (0 + 1) = true
       · rw [if_pos h16] at h
         have f15 := fun H g0 hg y => @app_nil _ _ e_api_Op _ v6 64 h16 (by decide) H g0 101 y hg
         simp only [e_api_Op] at f15
         cases h
         show LK env [] 0 [0, 3, 4] c35_L0 (some (t_additivelaw40_few_L0_st _ _)) = LK env [] 0 [0, 3, 4] c35_L0 (some (t_additivelaw40_few_L0_st _ _))
         simp only [t_additivelaw40_few_L0_st, e2]
         rw [LK_step]
         rcases tof (ilt s1 (flen k0)) with a17 | a17
         · rcases tof (ilt s1 30) with a18 | a18
           · simp (maxSteps := 4000000) [a17, a18, c7, e2, f4, f15]
           · simp [a17, a18] at c3
         · simp [a17] at c3
       · rw [if_neg h16] at h; cases h
  · rw [if_neg c3] at h
    rw [Bool.not_eq_true] at c3
    cases h
    show LK env [] 0 [0, 3, 4] c35_L0 (some (t_additivelaw40_few_L0_st _ _)) = some (t_additivelaw40_few_L0_out _ _)
    simp only [t_additivelaw40_few_L0_st, t_additivelaw40_few_L0_out, e2]
    rw [LK_step]
    rcases tof (ilt s1 (flen k0)) with a19 | a19
    · rcases tof (ilt s1 30) with a20 | a20
      · simp [a19, a20] at c3
      · simp (maxSteps := 4000000) [a19, a20, e2]
    · simp (maxSteps := 4000000) [a19, e2]
 | lst l1 =>
  try simp only [e2] at h
  by_cases c21 : (band (ilt s1 (flen k0)) (ilt s1 30)) = true
  · rw [if_pos c21] at h
    cases h23 : fget k0 s1 with
    | none => (rw [h23] at h; cases h)
    | some v24 =>
     simp only [h23] at h
     have f22 := iaddr_F (e := e_api_Op) h23
     by_cases c25 : (igt (flen v24.Cells) 40) = true
     · rw [if_pos c25] at h
       cases h27 : fsl v24.Cells 0 40 with
       | none => (rw [h27] at h; cases h)
       | some v28 =>
        simp only [h27] at h
        have f26 := slice_Fhi (e := e_api_Cell) h27
        by_cases h30 : fits 64 ((flen (FS.lst l1)) + 1) = true
        · rw [if_pos h30] at h
          have f29 := fun g0 H y => @app_row1 _ _ e_api_Op _ (FS.lst l1) (⟨v24.Kind, v24.Role, v24.Layer, v24.Z, v24.Speed, v28⟩ : api_Op) 64 h30 (by decide) g0 H 3 0 101 y
          simp only [e_api_Op] at f29
          cases h
          show LK env [] 0 [0, 3, 4] c35_L0 (some (t_additivelaw40_few_L0_st _ _)) = LK env [] 0 [0, 3, 4] c35_L0 (some (t_additivelaw40_few_L0_st _ _))
          simp only [t_additivelaw40_few_L0_st, e2]
          rw [LK_step]
          rcases tof (ilt s1 (flen k0)) with a31 | a31
          · rcases tof (ilt s1 30) with a32 | a32
            · simp (maxSteps := 4000000) [a31, a32, c25, e2, f22, f26, f29]
            · simp [a31, a32] at c21
          · simp [a31] at c21
        · rw [if_neg h30] at h; cases h
     · rw [if_neg c25] at h
       rw [Bool.not_eq_true] at c25
       by_cases h34 : fits 64 ((flen (FS.lst l1)) + 1) = true
       · rw [if_pos h34] at h
         have f33 := fun g0 H y => @app_row1 _ _ e_api_Op _ (FS.lst l1) v24 64 h34 (by decide) g0 H 3 0 101 y
         simp only [e_api_Op] at f33
         cases h
         show LK env [] 0 [0, 3, 4] c35_L0 (some (t_additivelaw40_few_L0_st _ _)) = LK env [] 0 [0, 3, 4] c35_L0 (some (t_additivelaw40_few_L0_st _ _))
         simp only [t_additivelaw40_few_L0_st, e2]
         rw [LK_step]
         rcases tof (ilt s1 (flen k0)) with a35 | a35
         · rcases tof (ilt s1 30) with a36 | a36
           · simp (maxSteps := 4000000) [a35, a36, c25, e2, f22, f33]
           · simp [a35, a36] at c21
         · simp [a35] at c21
       · rw [if_neg h34] at h; cases h
  · rw [if_neg c21] at h
    rw [Bool.not_eq_true] at c21
    cases h
    show LK env [] 0 [0, 3, 4] c35_L0 (some (t_additivelaw40_few_L0_st _ _)) = some (t_additivelaw40_few_L0_out _ _)
    simp only [t_additivelaw40_few_L0_st, t_additivelaw40_few_L0_out, e2]
    rw [LK_step]
    rcases tof (ilt s1 (flen k0)) with a37 | a37
    · rcases tof (ilt s1 30) with a38 | a38
      · simp [a37, a38] at c21
      · simp (maxSteps := 4000000) [a37, a38, e2]
    · simp (maxSteps := 4000000) [a37, e2]) bigN s r h
def t_additivelaw40_few (p0 : (FS api_Op)) : Option (FS api_Op) := (match loopT (t_additivelaw40_few_L0 p0) bigN ((FS.nil : (FS api_Op)), 0) with
 | none => none
 | some v14 => some v14)
theorem t_additivelaw40_few_ok {p0 : (FS api_Op)} {r : (FS api_Op)} (h : t_additivelaw40_few p0 = some r) : FC env 35 [encF e_api_Op p0] none = some (encF e_api_Op r, fun _ => none) := by
 unfold t_additivelaw40_few at h
 cases h39 : loopT (t_additivelaw40_few_L0 p0) bigN ((FS.nil : (FS api_Op)), 0) with
 | none => (rw [h39] at h; cases h)
 | some v40 =>
  simp only [h39] at h
  have f41 := t_additivelaw40_few_L0_ok h39
  simp only [t_additivelaw40_few_L0_st, t_additivelaw40_few_L0_out, fset_len] at f41
  cases e43 : v40 with
  | nil =>
   try simp only [e43, flen_nil] at h
   simp only [e43, flen_nil, fcase_nil, fcase_lst] at f41
   cases h
   refine FC_pure (lf := lf35) rfl rfl rfl ?_
   simp only [lf35, lc35]
   simp (maxSteps := 4000000) [f41, e43]
  | lst l42 =>
   try simp only [e43] at h
   simp only [e43, flen_nil, fcase_nil, fcase_lst] at f41
   cases h
   refine FC_pure (lf := lf35) rfl rfl rfl ?_
   simp only [lf35, lc35]
   simp (maxSteps := 4000000) [f41, e43, snap_rowD (e := e_api_Op) (el := 101) (fz := false)]

/-! flow.within -/
attribute [simp] c116_0 c116_1
def u_flow_within (p0 : Int) (p1 : Int) (p2 : Int) : Bool := (band (ige p0 p1) (ile p0 p2))
def t_flow_within (p0 : Int) (p1 : Int) (p2 : Int) : Option Bool := some (u_flow_within p0 p1 p2)
theorem u_flow_within_ok (p0 : Int) (p1 : Int) (p2 : Int) : FC env 116 [.int .i64 p0, .int .i64 p1, .int .i64 p2] none = some (.bool (u_flow_within p0 p1 p2), fun _ => none) := by
 unfold u_flow_within
 refine FC_pure (lf := lf116) rfl rfl rfl ?_
 simp only [lf116, lc116]
 rcases tof (ige p0 p1) with a1 | a1
 · simp (maxSteps := 4000000) [a1]
 · simp (maxSteps := 4000000) [a1]
theorem t_flow_within_ok {p0 : Int} {p1 : Int} {p2 : Int} {r : Bool} (h : t_flow_within p0 p1 p2 = some r) : FC env 116 [.int .i64 p0, .int .i64 p1, .int .i64 p2] none = some (.bool r, fun _ => none) := by
 cases h
 exact u_flow_within_ok _ _ _

/-! flow.even -/
attribute [simp] c124_0 c124_1
def u_flow_even (p0 : Int) (p1 : Int) (p2 : Int) : Bool := (band (u_flow_within p0 p1 p2) (ieq (irem p0 2) 0))
def t_flow_even (p0 : Int) (p1 : Int) (p2 : Int) : Option Bool := some (u_flow_even p0 p1 p2)
theorem u_flow_even_ok (p0 : Int) (p1 : Int) (p2 : Int) : FC env 124 [.int .i64 p0, .int .i64 p1, .int .i64 p2] none = some (.bool (u_flow_even p0 p1 p2), fun _ => none) := by
 unfold u_flow_even
 have f1 := u_flow_within_ok p0 p1 p2
 refine FC_pure (lf := lf124) rfl rfl rfl ?_
 simp only [lf124, lc124]
 rcases tof (u_flow_within p0 p1 p2) with a2 | a2
 · simp (maxSteps := 4000000) [a2, f1, (show ieq 2 0 = false from rfl)]
 · simp (maxSteps := 4000000) [a2, f1, (show ieq 2 0 = false from rfl)]
theorem t_flow_even_ok {p0 : Int} {p1 : Int} {p2 : Int} {r : Bool} (h : t_flow_even p0 p1 p2 = some r) : FC env 124 [.int .i64 p0, .int .i64 p1, .int .i64 p2] none = some (.bool r, fun _ => none) := by
 cases h
 exact u_flow_even_ok _ _ _

/-! flow.check -/
attribute [simp] c115_0 c115_1
def u_flow_check (p0 : api_Settings) : flow_faults := (⟨(bor (bnot (u_flow_even p0.Pitch 32 1024)) (bnot (u_flow_even p0.Height 4 1024))), (bor (bor (bnot (u_flow_within p0.Walls 0 8)) (bnot (u_flow_within p0.Top 0 16))) (bnot (u_flow_within p0.Bottom 0 16))), (bor (bnot (u_flow_within p0.Pattern 0 3)) (bnot (u_flow_within p0.Spacing 1 64))), (bor (bor (bor (bnot (u_flow_within p0.Reach 0 64)) (bnot (u_flow_within p0.Gap 0 64))) (bnot (u_flow_within p0.Brim 0 64))) (bnot (u_flow_within p0.Skirt 0 63))), (bor (bnot (u_flow_within p0.Drop 1 1073741824)) (bnot (u_flow_within p0.Retract 0 65536))), (bor (bor (bor (bnot (u_flow_within p0.Feed 1 1048576)) (bnot (u_flow_within p0.Travel 1 1048576))) (bnot (u_flow_within p0.MinTime 0 1048576))) (bnot (u_flow_within p0.MinFeed 1 p0.Feed))), (bor (bnot (u_flow_within p0.Nozzle 0 400000)) (bnot (u_flow_within p0.Bed 0 400000)))⟩ : flow_faults)
def t_flow_check (p0 : api_Settings) : Option flow_faults := some (u_flow_check p0)
theorem u_flow_check_ok (p0 : api_Settings) : FC env 115 [.agg [.int .i64 p0.Pitch, .int .i64 p0.Height, .int .i64 p0.Walls, .int .i64 p0.Top, .int .i64 p0.Bottom, .int .i64 p0.Pattern, .int .i64 p0.Spacing, .bool p0.Support, .int .i64 p0.Reach, .int .i64 p0.Gap, .int .i64 p0.Brim, .int .i64 p0.Skirt, .int .i64 p0.Drop, .int .i64 p0.Feed, .int .i64 p0.Travel, .int .i64 p0.Retract, .int .i64 p0.MinTime, .int .i64 p0.MinFeed, .int .i64 p0.Nozzle, .int .i64 p0.Bed]] none = some (.agg [.bool (((u_flow_check p0)).grid), .bool (((u_flow_check p0)).solid), .bool (((u_flow_check p0)).pattern), .bool (((u_flow_check p0)).around), .bool (((u_flow_check p0)).filament), .bool (((u_flow_check p0)).speeds), .bool (((u_flow_check p0)).heat)], fun _ => none) := by
 unfold u_flow_check
 refine FC_pure (lf := lf115) rfl rfl rfl ?_
 simp only [lf115, lc115]
 simp [-c115_1]
 unfold c115_1
 rw [opsD_un (v := (.ptr 1 0 0))]
 rotate_left
 · rfl
 · simp []
 rw [opsD_un (v := (.int .i64 p0.Pitch))]
 rotate_left
 · rfl
 · simp []
 have f1 := u_flow_even_ok p0.Pitch 32 1024
 rw [opsD_un (v := (.bool (u_flow_even p0.Pitch 32 1024)))]
 rotate_left
 · rfl
 · simp [f1]
 rw [opsD_un (v := (.bool (bnot (u_flow_even p0.Pitch 32 1024))))]
 rotate_left
 · rfl
 · simp []
 rw [opsD_un (v := (.bool (bnot (u_flow_even p0.Pitch 32 1024))))]
 rotate_left
 · rfl
 · simp []
 rw [opsD_gd (c := (bnot (u_flow_even p0.Pitch 32 1024))) (v := (.ptr 1 0 1))]
 rotate_left
 · rfl
 · simp
 · intro q
   simp [q]
 rw [opsD_gd (c := (bnot (u_flow_even p0.Pitch 32 1024))) (v := (.int .i64 p0.Height))]
 rotate_left
 · rfl
 · simp
 · intro q
   simp [q]
 have f2 := u_flow_even_ok p0.Height 4 1024
 rw [opsD_gd (c := (bnot (u_flow_even p0.Pitch 32 1024))) (v := (.bool (u_flow_even p0.Height 4 1024)))]
 rotate_left
 · rfl
 · simp
 · intro q
   simp [q, f2]
 rw [opsD_gd (c := (bnot (u_flow_even p0.Pitch 32 1024))) (v := (.bool (bnot (u_flow_even p0.Height 4 1024))))]
 rotate_left
 · rfl
 · simp
 · intro q
   simp [q]
 rw [opsD_un (v := (.bool (bor (bnot (u_flow_even p0.Pitch 32 1024)) (bnot (u_flow_even p0.Height 4 1024)))))]
 rotate_left
 · rfl
 · rcases tof (bnot (u_flow_even p0.Pitch 32 1024)) with q | q <;> simp [q]
 rw [opsD_un (v := (.ptr 1 0 2))]
 rotate_left
 · rfl
 · simp []
 rw [opsD_un (v := (.int .i64 p0.Walls))]
 rotate_left
 · rfl
 · simp []
 have f3 := u_flow_within_ok p0.Walls 0 8
 rw [opsD_un (v := (.bool (u_flow_within p0.Walls 0 8)))]
 rotate_left
 · rfl
 · simp [f3]
 rw [opsD_un (v := (.bool (bnot (u_flow_within p0.Walls 0 8))))]
 rotate_left
 · rfl
 · simp []
 rw [opsD_un (v := (.bool (bnot (u_flow_within p0.Walls 0 8))))]
 rotate_left
 · rfl
 · simp []
 rw [opsD_gd (c := (bnot (u_flow_within p0.Walls 0 8))) (v := (.ptr 1 0 3))]
 rotate_left
 · rfl
 · simp
 · intro q
   simp [q]
 rw [opsD_gd (c := (bnot (u_flow_within p0.Walls 0 8))) (v := (.int .i64 p0.Top))]
 rotate_left
 · rfl
 · simp
 · intro q
   simp [q]
 have f4 := u_flow_within_ok p0.Top 0 16
 rw [opsD_gd (c := (bnot (u_flow_within p0.Walls 0 8))) (v := (.bool (u_flow_within p0.Top 0 16)))]
 rotate_left
 · rfl
 · simp
 · intro q
   simp [q, f4]
 rw [opsD_gd (c := (bnot (u_flow_within p0.Walls 0 8))) (v := (.bool (bnot (u_flow_within p0.Top 0 16))))]
 rotate_left
 · rfl
 · simp
 · intro q
   simp [q]
 rw [opsD_un (v := (.bool (bor (bnot (u_flow_within p0.Walls 0 8)) (bnot (u_flow_within p0.Top 0 16)))))]
 rotate_left
 · rfl
 · rcases tof (bnot (u_flow_within p0.Walls 0 8)) with q | q <;> simp [q]
 rw [opsD_un (v := (.bool (bor (bnot (u_flow_within p0.Walls 0 8)) (bnot (u_flow_within p0.Top 0 16)))))]
 rotate_left
 · rfl
 · simp []
 rw [opsD_gd (c := (bor (bnot (u_flow_within p0.Walls 0 8)) (bnot (u_flow_within p0.Top 0 16)))) (v := (.ptr 1 0 4))]
 rotate_left
 · rfl
 · simp
 · intro q
   simp [q]
 rw [opsD_gd (c := (bor (bnot (u_flow_within p0.Walls 0 8)) (bnot (u_flow_within p0.Top 0 16)))) (v := (.int .i64 p0.Bottom))]
 rotate_left
 · rfl
 · simp
 · intro q
   simp [q]
 have f5 := u_flow_within_ok p0.Bottom 0 16
 rw [opsD_gd (c := (bor (bnot (u_flow_within p0.Walls 0 8)) (bnot (u_flow_within p0.Top 0 16)))) (v := (.bool (u_flow_within p0.Bottom 0 16)))]
 rotate_left
 · rfl
 · simp
 · intro q
   simp [q, f5]
 rw [opsD_gd (c := (bor (bnot (u_flow_within p0.Walls 0 8)) (bnot (u_flow_within p0.Top 0 16)))) (v := (.bool (bnot (u_flow_within p0.Bottom 0 16))))]
 rotate_left
 · rfl
 · simp
 · intro q
   simp [q]
 rw [opsD_un (v := (.bool (bor (bor (bnot (u_flow_within p0.Walls 0 8)) (bnot (u_flow_within p0.Top 0 16))) (bnot (u_flow_within p0.Bottom 0 16)))))]
 rotate_left
 · rfl
 · rcases tof (bor (bnot (u_flow_within p0.Walls 0 8)) (bnot (u_flow_within p0.Top 0 16))) with q | q <;> simp [q]
 rw [opsD_un (v := (.ptr 1 0 5))]
 rotate_left
 · rfl
 · simp []
 rw [opsD_un (v := (.int .i64 p0.Pattern))]
 rotate_left
 · rfl
 · simp []
 have f6 := u_flow_within_ok p0.Pattern 0 3
 rw [opsD_un (v := (.bool (u_flow_within p0.Pattern 0 3)))]
 rotate_left
 · rfl
 · simp [f6]
 rw [opsD_un (v := (.bool (bnot (u_flow_within p0.Pattern 0 3))))]
 rotate_left
 · rfl
 · simp []
 rw [opsD_un (v := (.bool (bnot (u_flow_within p0.Pattern 0 3))))]
 rotate_left
 · rfl
 · simp []
 rw [opsD_gd (c := (bnot (u_flow_within p0.Pattern 0 3))) (v := (.ptr 1 0 6))]
 rotate_left
 · rfl
 · simp
 · intro q
   simp [q]
 rw [opsD_gd (c := (bnot (u_flow_within p0.Pattern 0 3))) (v := (.int .i64 p0.Spacing))]
 rotate_left
 · rfl
 · simp
 · intro q
   simp [q]
 have f7 := u_flow_within_ok p0.Spacing 1 64
 rw [opsD_gd (c := (bnot (u_flow_within p0.Pattern 0 3))) (v := (.bool (u_flow_within p0.Spacing 1 64)))]
 rotate_left
 · rfl
 · simp
 · intro q
   simp [q, f7]
 rw [opsD_gd (c := (bnot (u_flow_within p0.Pattern 0 3))) (v := (.bool (bnot (u_flow_within p0.Spacing 1 64))))]
 rotate_left
 · rfl
 · simp
 · intro q
   simp [q]
 rw [opsD_un (v := (.bool (bor (bnot (u_flow_within p0.Pattern 0 3)) (bnot (u_flow_within p0.Spacing 1 64)))))]
 rotate_left
 · rfl
 · rcases tof (bnot (u_flow_within p0.Pattern 0 3)) with q | q <;> simp [q]
 rw [opsD_un (v := (.ptr 1 0 8))]
 rotate_left
 · rfl
 · simp []
 rw [opsD_un (v := (.int .i64 p0.Reach))]
 rotate_left
 · rfl
 · simp []
 have f8 := u_flow_within_ok p0.Reach 0 64
 rw [opsD_un (v := (.bool (u_flow_within p0.Reach 0 64)))]
 rotate_left
 · rfl
 · simp [f8]
 rw [opsD_un (v := (.bool (bnot (u_flow_within p0.Reach 0 64))))]
 rotate_left
 · rfl
 · simp []
 rw [opsD_un (v := (.bool (bnot (u_flow_within p0.Reach 0 64))))]
 rotate_left
 · rfl
 · simp []
 rw [opsD_gd (c := (bnot (u_flow_within p0.Reach 0 64))) (v := (.ptr 1 0 9))]
 rotate_left
 · rfl
 · simp
 · intro q
   simp [q]
 rw [opsD_gd (c := (bnot (u_flow_within p0.Reach 0 64))) (v := (.int .i64 p0.Gap))]
 rotate_left
 · rfl
 · simp
 · intro q
   simp [q]
 have f9 := u_flow_within_ok p0.Gap 0 64
 rw [opsD_gd (c := (bnot (u_flow_within p0.Reach 0 64))) (v := (.bool (u_flow_within p0.Gap 0 64)))]
 rotate_left
 · rfl
 · simp
 · intro q
   simp [q, f9]
 rw [opsD_gd (c := (bnot (u_flow_within p0.Reach 0 64))) (v := (.bool (bnot (u_flow_within p0.Gap 0 64))))]
 rotate_left
 · rfl
 · simp
 · intro q
   simp [q]
 rw [opsD_un (v := (.bool (bor (bnot (u_flow_within p0.Reach 0 64)) (bnot (u_flow_within p0.Gap 0 64)))))]
 rotate_left
 · rfl
 · rcases tof (bnot (u_flow_within p0.Reach 0 64)) with q | q <;> simp [q]
 rw [opsD_un (v := (.bool (bor (bnot (u_flow_within p0.Reach 0 64)) (bnot (u_flow_within p0.Gap 0 64)))))]
 rotate_left
 · rfl
 · simp []
 rw [opsD_gd (c := (bor (bnot (u_flow_within p0.Reach 0 64)) (bnot (u_flow_within p0.Gap 0 64)))) (v := (.ptr 1 0 10))]
 rotate_left
 · rfl
 · simp
 · intro q
   simp [q]
 rw [opsD_gd (c := (bor (bnot (u_flow_within p0.Reach 0 64)) (bnot (u_flow_within p0.Gap 0 64)))) (v := (.int .i64 p0.Brim))]
 rotate_left
 · rfl
 · simp
 · intro q
   simp [q]
 have f10 := u_flow_within_ok p0.Brim 0 64
 rw [opsD_gd (c := (bor (bnot (u_flow_within p0.Reach 0 64)) (bnot (u_flow_within p0.Gap 0 64)))) (v := (.bool (u_flow_within p0.Brim 0 64)))]
 rotate_left
 · rfl
 · simp
 · intro q
   simp [q, f10]
 rw [opsD_gd (c := (bor (bnot (u_flow_within p0.Reach 0 64)) (bnot (u_flow_within p0.Gap 0 64)))) (v := (.bool (bnot (u_flow_within p0.Brim 0 64))))]
 rotate_left
 · rfl
 · simp
 · intro q
   simp [q]
 rw [opsD_un (v := (.bool (bor (bor (bnot (u_flow_within p0.Reach 0 64)) (bnot (u_flow_within p0.Gap 0 64))) (bnot (u_flow_within p0.Brim 0 64)))))]
 rotate_left
 · rfl
 · rcases tof (bor (bnot (u_flow_within p0.Reach 0 64)) (bnot (u_flow_within p0.Gap 0 64))) with q | q <;> simp [q]
 rw [opsD_un (v := (.bool (bor (bor (bnot (u_flow_within p0.Reach 0 64)) (bnot (u_flow_within p0.Gap 0 64))) (bnot (u_flow_within p0.Brim 0 64)))))]
 rotate_left
 · rfl
 · simp []
 rw [opsD_gd (c := (bor (bor (bnot (u_flow_within p0.Reach 0 64)) (bnot (u_flow_within p0.Gap 0 64))) (bnot (u_flow_within p0.Brim 0 64)))) (v := (.ptr 1 0 11))]
 rotate_left
 · rfl
 · simp
 · intro q
   simp [q]
 rw [opsD_gd (c := (bor (bor (bnot (u_flow_within p0.Reach 0 64)) (bnot (u_flow_within p0.Gap 0 64))) (bnot (u_flow_within p0.Brim 0 64)))) (v := (.int .i64 p0.Skirt))]
 rotate_left
 · rfl
 · simp
 · intro q
   simp [q]
 have f11 := u_flow_within_ok p0.Skirt 0 63
 rw [opsD_gd (c := (bor (bor (bnot (u_flow_within p0.Reach 0 64)) (bnot (u_flow_within p0.Gap 0 64))) (bnot (u_flow_within p0.Brim 0 64)))) (v := (.bool (u_flow_within p0.Skirt 0 63)))]
 rotate_left
 · rfl
 · simp
 · intro q
   simp [q, f11]
 rw [opsD_gd (c := (bor (bor (bnot (u_flow_within p0.Reach 0 64)) (bnot (u_flow_within p0.Gap 0 64))) (bnot (u_flow_within p0.Brim 0 64)))) (v := (.bool (bnot (u_flow_within p0.Skirt 0 63))))]
 rotate_left
 · rfl
 · simp
 · intro q
   simp [q]
 rw [opsD_un (v := (.bool (bor (bor (bor (bnot (u_flow_within p0.Reach 0 64)) (bnot (u_flow_within p0.Gap 0 64))) (bnot (u_flow_within p0.Brim 0 64))) (bnot (u_flow_within p0.Skirt 0 63)))))]
 rotate_left
 · rfl
 · rcases tof (bor (bor (bnot (u_flow_within p0.Reach 0 64)) (bnot (u_flow_within p0.Gap 0 64))) (bnot (u_flow_within p0.Brim 0 64))) with q | q <;> simp [q]
 rw [opsD_un (v := (.ptr 1 0 12))]
 rotate_left
 · rfl
 · simp []
 rw [opsD_un (v := (.int .i64 p0.Drop))]
 rotate_left
 · rfl
 · simp []
 have f12 := u_flow_within_ok p0.Drop 1 1073741824
 rw [opsD_un (v := (.bool (u_flow_within p0.Drop 1 1073741824)))]
 rotate_left
 · rfl
 · simp [f12]
 rw [opsD_un (v := (.bool (bnot (u_flow_within p0.Drop 1 1073741824))))]
 rotate_left
 · rfl
 · simp []
 rw [opsD_un (v := (.bool (bnot (u_flow_within p0.Drop 1 1073741824))))]
 rotate_left
 · rfl
 · simp []
 rw [opsD_gd (c := (bnot (u_flow_within p0.Drop 1 1073741824))) (v := (.ptr 1 0 15))]
 rotate_left
 · rfl
 · simp
 · intro q
   simp [q]
 rw [opsD_gd (c := (bnot (u_flow_within p0.Drop 1 1073741824))) (v := (.int .i64 p0.Retract))]
 rotate_left
 · rfl
 · simp
 · intro q
   simp [q]
 have f13 := u_flow_within_ok p0.Retract 0 65536
 rw [opsD_gd (c := (bnot (u_flow_within p0.Drop 1 1073741824))) (v := (.bool (u_flow_within p0.Retract 0 65536)))]
 rotate_left
 · rfl
 · simp
 · intro q
   simp [q, f13]
 rw [opsD_gd (c := (bnot (u_flow_within p0.Drop 1 1073741824))) (v := (.bool (bnot (u_flow_within p0.Retract 0 65536))))]
 rotate_left
 · rfl
 · simp
 · intro q
   simp [q]
 rw [opsD_un (v := (.bool (bor (bnot (u_flow_within p0.Drop 1 1073741824)) (bnot (u_flow_within p0.Retract 0 65536)))))]
 rotate_left
 · rfl
 · rcases tof (bnot (u_flow_within p0.Drop 1 1073741824)) with q | q <;> simp [q]
 rw [opsD_un (v := (.ptr 1 0 13))]
 rotate_left
 · rfl
 · simp []
 rw [opsD_un (v := (.int .i64 p0.Feed))]
 rotate_left
 · rfl
 · simp []
 have f14 := u_flow_within_ok p0.Feed 1 1048576
 rw [opsD_un (v := (.bool (u_flow_within p0.Feed 1 1048576)))]
 rotate_left
 · rfl
 · simp [f14]
 rw [opsD_un (v := (.bool (bnot (u_flow_within p0.Feed 1 1048576))))]
 rotate_left
 · rfl
 · simp []
 rw [opsD_un (v := (.bool (bnot (u_flow_within p0.Feed 1 1048576))))]
 rotate_left
 · rfl
 · simp []
 rw [opsD_gd (c := (bnot (u_flow_within p0.Feed 1 1048576))) (v := (.ptr 1 0 14))]
 rotate_left
 · rfl
 · simp
 · intro q
   simp [q]
 rw [opsD_gd (c := (bnot (u_flow_within p0.Feed 1 1048576))) (v := (.int .i64 p0.Travel))]
 rotate_left
 · rfl
 · simp
 · intro q
   simp [q]
 have f15 := u_flow_within_ok p0.Travel 1 1048576
 rw [opsD_gd (c := (bnot (u_flow_within p0.Feed 1 1048576))) (v := (.bool (u_flow_within p0.Travel 1 1048576)))]
 rotate_left
 · rfl
 · simp
 · intro q
   simp [q, f15]
 rw [opsD_gd (c := (bnot (u_flow_within p0.Feed 1 1048576))) (v := (.bool (bnot (u_flow_within p0.Travel 1 1048576))))]
 rotate_left
 · rfl
 · simp
 · intro q
   simp [q]
 rw [opsD_un (v := (.bool (bor (bnot (u_flow_within p0.Feed 1 1048576)) (bnot (u_flow_within p0.Travel 1 1048576)))))]
 rotate_left
 · rfl
 · rcases tof (bnot (u_flow_within p0.Feed 1 1048576)) with q | q <;> simp [q]
 rw [opsD_un (v := (.bool (bor (bnot (u_flow_within p0.Feed 1 1048576)) (bnot (u_flow_within p0.Travel 1 1048576)))))]
 rotate_left
 · rfl
 · simp []
 rw [opsD_gd (c := (bor (bnot (u_flow_within p0.Feed 1 1048576)) (bnot (u_flow_within p0.Travel 1 1048576)))) (v := (.ptr 1 0 16))]
 rotate_left
 · rfl
 · simp
 · intro q
   simp [q]
 rw [opsD_gd (c := (bor (bnot (u_flow_within p0.Feed 1 1048576)) (bnot (u_flow_within p0.Travel 1 1048576)))) (v := (.int .i64 p0.MinTime))]
 rotate_left
 · rfl
 · simp
 · intro q
   simp [q]
 have f16 := u_flow_within_ok p0.MinTime 0 1048576
 rw [opsD_gd (c := (bor (bnot (u_flow_within p0.Feed 1 1048576)) (bnot (u_flow_within p0.Travel 1 1048576)))) (v := (.bool (u_flow_within p0.MinTime 0 1048576)))]
 rotate_left
 · rfl
 · simp
 · intro q
   simp [q, f16]
 rw [opsD_gd (c := (bor (bnot (u_flow_within p0.Feed 1 1048576)) (bnot (u_flow_within p0.Travel 1 1048576)))) (v := (.bool (bnot (u_flow_within p0.MinTime 0 1048576))))]
 rotate_left
 · rfl
 · simp
 · intro q
   simp [q]
 rw [opsD_un (v := (.bool (bor (bor (bnot (u_flow_within p0.Feed 1 1048576)) (bnot (u_flow_within p0.Travel 1 1048576))) (bnot (u_flow_within p0.MinTime 0 1048576)))))]
 rotate_left
 · rfl
 · rcases tof (bor (bnot (u_flow_within p0.Feed 1 1048576)) (bnot (u_flow_within p0.Travel 1 1048576))) with q | q <;> simp [q]
 rw [opsD_un (v := (.bool (bor (bor (bnot (u_flow_within p0.Feed 1 1048576)) (bnot (u_flow_within p0.Travel 1 1048576))) (bnot (u_flow_within p0.MinTime 0 1048576)))))]
 rotate_left
 · rfl
 · simp []
 rw [opsD_gd (c := (bor (bor (bnot (u_flow_within p0.Feed 1 1048576)) (bnot (u_flow_within p0.Travel 1 1048576))) (bnot (u_flow_within p0.MinTime 0 1048576)))) (v := (.ptr 1 0 17))]
 rotate_left
 · rfl
 · simp
 · intro q
   simp [q]
 rw [opsD_gd (c := (bor (bor (bnot (u_flow_within p0.Feed 1 1048576)) (bnot (u_flow_within p0.Travel 1 1048576))) (bnot (u_flow_within p0.MinTime 0 1048576)))) (v := (.int .i64 p0.MinFeed))]
 rotate_left
 · rfl
 · simp
 · intro q
   simp [q]
 rw [opsD_gd (c := (bor (bor (bnot (u_flow_within p0.Feed 1 1048576)) (bnot (u_flow_within p0.Travel 1 1048576))) (bnot (u_flow_within p0.MinTime 0 1048576)))) (v := (.ptr 1 0 13))]
 rotate_left
 · rfl
 · simp
 · intro q
   simp [q]
 rw [opsD_gd (c := (bor (bor (bnot (u_flow_within p0.Feed 1 1048576)) (bnot (u_flow_within p0.Travel 1 1048576))) (bnot (u_flow_within p0.MinTime 0 1048576)))) (v := (.int .i64 p0.Feed))]
 rotate_left
 · rfl
 · simp
 · intro q
   simp [q]
 have f17 := u_flow_within_ok p0.MinFeed 1 p0.Feed
 rw [opsD_gd (c := (bor (bor (bnot (u_flow_within p0.Feed 1 1048576)) (bnot (u_flow_within p0.Travel 1 1048576))) (bnot (u_flow_within p0.MinTime 0 1048576)))) (v := (.bool (u_flow_within p0.MinFeed 1 p0.Feed)))]
 rotate_left
 · rfl
 · simp
 · intro q
   simp [q, f17]
 rw [opsD_gd (c := (bor (bor (bnot (u_flow_within p0.Feed 1 1048576)) (bnot (u_flow_within p0.Travel 1 1048576))) (bnot (u_flow_within p0.MinTime 0 1048576)))) (v := (.bool (bnot (u_flow_within p0.MinFeed 1 p0.Feed))))]
 rotate_left
 · rfl
 · simp
 · intro q
   simp [q]
 rw [opsD_un (v := (.bool (bor (bor (bor (bnot (u_flow_within p0.Feed 1 1048576)) (bnot (u_flow_within p0.Travel 1 1048576))) (bnot (u_flow_within p0.MinTime 0 1048576))) (bnot (u_flow_within p0.MinFeed 1 p0.Feed)))))]
 rotate_left
 · rfl
 · rcases tof (bor (bor (bnot (u_flow_within p0.Feed 1 1048576)) (bnot (u_flow_within p0.Travel 1 1048576))) (bnot (u_flow_within p0.MinTime 0 1048576))) with q | q <;> simp [q]
 rw [opsD_un (v := (.ptr 1 0 18))]
 rotate_left
 · rfl
 · simp []
 rw [opsD_un (v := (.int .i64 p0.Nozzle))]
 rotate_left
 · rfl
 · simp []
 have f18 := u_flow_within_ok p0.Nozzle 0 400000
 rw [opsD_un (v := (.bool (u_flow_within p0.Nozzle 0 400000)))]
 rotate_left
 · rfl
 · simp [f18]
 rw [opsD_un (v := (.bool (bnot (u_flow_within p0.Nozzle 0 400000))))]
 rotate_left
 · rfl
 · simp []
 rw [opsD_un (v := (.bool (bnot (u_flow_within p0.Nozzle 0 400000))))]
 rotate_left
 · rfl
 · simp []
 rw [opsD_gd (c := (bnot (u_flow_within p0.Nozzle 0 400000))) (v := (.ptr 1 0 19))]
 rotate_left
 · rfl
 · simp
 · intro q
   simp [q]
 rw [opsD_gd (c := (bnot (u_flow_within p0.Nozzle 0 400000))) (v := (.int .i64 p0.Bed))]
 rotate_left
 · rfl
 · simp
 · intro q
   simp [q]
 have f19 := u_flow_within_ok p0.Bed 0 400000
 rw [opsD_gd (c := (bnot (u_flow_within p0.Nozzle 0 400000))) (v := (.bool (u_flow_within p0.Bed 0 400000)))]
 rotate_left
 · rfl
 · simp
 · intro q
   simp [q, f19]
 rw [opsD_gd (c := (bnot (u_flow_within p0.Nozzle 0 400000))) (v := (.bool (bnot (u_flow_within p0.Bed 0 400000))))]
 rotate_left
 · rfl
 · simp
 · intro q
   simp [q]
 rw [opsD_un (v := (.bool (bor (bnot (u_flow_within p0.Nozzle 0 400000)) (bnot (u_flow_within p0.Bed 0 400000)))))]
 rotate_left
 · rfl
 · rcases tof (bnot (u_flow_within p0.Nozzle 0 400000)) with q | q <;> simp [q]
 simp (maxSteps := 4000000) [f1, f2, f3, f4, f5, f6, f7, f8, f9, f10, f11, f12, f13, f14, f15, f16, f17, f18, f19]
theorem t_flow_check_ok {p0 : api_Settings} {r : flow_faults} (h : t_flow_check p0 = some r) : FC env 115 [.agg [.int .i64 p0.Pitch, .int .i64 p0.Height, .int .i64 p0.Walls, .int .i64 p0.Top, .int .i64 p0.Bottom, .int .i64 p0.Pattern, .int .i64 p0.Spacing, .bool p0.Support, .int .i64 p0.Reach, .int .i64 p0.Gap, .int .i64 p0.Brim, .int .i64 p0.Skirt, .int .i64 p0.Drop, .int .i64 p0.Feed, .int .i64 p0.Travel, .int .i64 p0.Retract, .int .i64 p0.MinTime, .int .i64 p0.MinFeed, .int .i64 p0.Nozzle, .int .i64 p0.Bed]] none = some (.agg [.bool r.grid, .bool r.solid, .bool r.pattern, .bool r.around, .bool r.filament, .bool r.speeds, .bool r.heat], fun _ => none) := by
 cases h
 exact u_flow_check_ok _

/-! flow.Valid -/
attribute [simp] c97_0 c97_1
def u_flow_Valid (p0 : api_Settings) : Bool := (band (beqB (((u_flow_check p0)).grid) false) (band (beqB (((u_flow_check p0)).solid) false) (band (beqB (((u_flow_check p0)).pattern) false) (band (beqB (((u_flow_check p0)).around) false) (band (beqB (((u_flow_check p0)).filament) false) (band (beqB (((u_flow_check p0)).speeds) false) (band (beqB (((u_flow_check p0)).heat) false) true)))))))
def t_flow_Valid (p0 : api_Settings) : Option Bool := some (u_flow_Valid p0)
theorem u_flow_Valid_ok (p0 : api_Settings) : FC env 97 [.agg [.int .i64 p0.Pitch, .int .i64 p0.Height, .int .i64 p0.Walls, .int .i64 p0.Top, .int .i64 p0.Bottom, .int .i64 p0.Pattern, .int .i64 p0.Spacing, .bool p0.Support, .int .i64 p0.Reach, .int .i64 p0.Gap, .int .i64 p0.Brim, .int .i64 p0.Skirt, .int .i64 p0.Drop, .int .i64 p0.Feed, .int .i64 p0.Travel, .int .i64 p0.Retract, .int .i64 p0.MinTime, .int .i64 p0.MinFeed, .int .i64 p0.Nozzle, .int .i64 p0.Bed]] none = some (.bool (u_flow_Valid p0), fun _ => none) := by
 unfold u_flow_Valid
 have f1 := u_flow_check_ok p0
 refine FC_pure (lf := lf97) rfl rfl rfl ?_
 simp only [lf97, lc97]
 simp (maxSteps := 4000000) [f1]
theorem t_flow_Valid_ok {p0 : api_Settings} {r : Bool} (h : t_flow_Valid p0 = some r) : FC env 97 [.agg [.int .i64 p0.Pitch, .int .i64 p0.Height, .int .i64 p0.Walls, .int .i64 p0.Top, .int .i64 p0.Bottom, .int .i64 p0.Pattern, .int .i64 p0.Spacing, .bool p0.Support, .int .i64 p0.Reach, .int .i64 p0.Gap, .int .i64 p0.Brim, .int .i64 p0.Skirt, .int .i64 p0.Drop, .int .i64 p0.Feed, .int .i64 p0.Travel, .int .i64 p0.Retract, .int .i64 p0.MinTime, .int .i64 p0.MinFeed, .int .i64 p0.Nozzle, .int .i64 p0.Bed]] none = some (.bool r, fun _ => none) := by
 cases h
 exact u_flow_Valid_ok _

/-! flow.Volume -/
attribute [simp] c99_0 c99_1 c99_2 c99_3
def t_flow_Volume (p0 : Int) (p1 : api_Settings) : Option Int := (if (bor (bnot (u_flow_within p0 0 1048576)) (bnot (u_flow_Valid p1))) = true then some 0
 else some (imul .i64 (imul .i64 (imul .i64 p0 p1.Pitch) p1.Pitch) p1.Height))
theorem t_flow_Volume_ok {p0 : Int} {p1 : api_Settings} {r : Int} (h : t_flow_Volume p0 p1 = some r) : FC env 99 [.int .i64 p0, .agg [.int .i64 p1.Pitch, .int .i64 p1.Height, .int .i64 p1.Walls, .int .i64 p1.Top, .int .i64 p1.Bottom, .int .i64 p1.Pattern, .int .i64 p1.Spacing, .bool p1.Support, .int .i64 p1.Reach, .int .i64 p1.Gap, .int .i64 p1.Brim, .int .i64 p1.Skirt, .int .i64 p1.Drop, .int .i64 p1.Feed, .int .i64 p1.Travel, .int .i64 p1.Retract, .int .i64 p1.MinTime, .int .i64 p1.MinFeed, .int .i64 p1.Nozzle, .int .i64 p1.Bed]] none = some (.int .i64 r, fun _ => none) := by
 unfold t_flow_Volume at h
 have f1 := u_flow_within_ok p0 0 1048576
 have f2 := u_flow_Valid_ok p1
 by_cases c3 : (bor (bnot (u_flow_within p0 0 1048576)) (bnot (u_flow_Valid p1))) = true
 · rw [if_pos c3] at h
   cases h
   refine FC_pure (lf := lf99) rfl rfl rfl ?_
   simp only [lf99, lc99]
   rcases tof (u_flow_within p0 0 1048576) with a4 | a4
   · rcases tof (u_flow_Valid p1) with a5 | a5
     · simp [a4, a5] at c3
     · simp (maxSteps := 4000000) [a4, a5, f1, f2]
   · simp (maxSteps := 4000000) [a4, f1, f2]
 · rw [if_neg c3] at h
   rw [Bool.not_eq_true] at c3
   cases h
   refine FC_pure (lf := lf99) rfl rfl rfl ?_
   simp only [lf99, lc99]
   rcases tof (u_flow_within p0 0 1048576) with a6 | a6
   · rcases tof (u_flow_Valid p1) with a7 | a7
     · simp (maxSteps := 4000000) [a6, a7, f1, f2]
     · simp [a6, a7] at c3
   · simp [a6] at c3

/-! num.Floor -/
attribute [simp] c98_0 c98_1 c98_2 c98_3 c98_4 c98_5 c98_6 c98_7 c98_8
def t_num_Floor (p0 : Int) (p1 : Int) : Option (Int × Int) := (if (ieq p1 0) = true then some (0, 4)
 else (if (band (ieq p0 (-9223372036854775808)) (ieq p1 (-1))) = true then some (0, 3)
 else (if ieq p1 0 = true then none else (if ieq p1 0 = true then none else (if (band (ine (irem p0 p1) 0) (bnot (band (beqB (ilt p0 0) (ilt p1 0)) true))) = true then some ((isub .i64 (iquo .i64 p0 p1) 1), 0)
 else some ((iquo .i64 p0 p1), 0))))))
theorem t_num_Floor_ok {p0 : Int} {p1 : Int} {r : (Int × Int)} (h : t_num_Floor p0 p1 = some r) : FC env 98 [.int .i64 p0, .int .i64 p1] none = some (.tup [.int .i64 r.1, .int .i64 r.2], fun _ => none) := by
 unfold t_num_Floor at h
 by_cases c1 : (ieq p1 0) = true
 · rw [if_pos c1] at h
   cases h
   refine FC_pure (lf := lf98) rfl rfl rfl ?_
   simp only [lf98, lc98]
   simp (maxSteps := 4000000) [c1, snap_tupE, tupS, snap7_int, snap7_bool, snap7_str, snap7_nils, snap7_agg]
 · rw [if_neg c1] at h
   rw [Bool.not_eq_true] at c1
   by_cases c2 : (band (ieq p0 (-9223372036854775808)) (ieq p1 (-1))) = true
   · rw [if_pos c2] at h
     cases h
     refine FC_pure (lf := lf98) rfl rfl rfl ?_
     simp only [lf98, lc98]
     rcases tof (ieq p0 (-9223372036854775808)) with a3 | a3
     · rcases tof (ieq p1 (-1)) with a4 | a4
       · simp (maxSteps := 4000000) [c1, a3, a4, snap_tupE, tupS, snap7_int, snap7_bool, snap7_str, snap7_nils, snap7_agg]
       · simp [c1, a3, a4] at c2
     · simp [c1, a3] at c2
   · rw [if_neg c2] at h
     rw [Bool.not_eq_true] at c2
     by_cases h5 : ieq p1 0 = true
     · rw [if_pos h5] at h; cases h
     · rw [if_neg h5] at h
       rw [Bool.not_eq_true] at h5
       by_cases h6 : ieq p1 0 = true
       · rw [if_pos h6] at h; cases h
       · rw [if_neg h6] at h
         rw [Bool.not_eq_true] at h6
         by_cases c7 : (band (ine (irem p0 p1) 0) (bnot (band (beqB (ilt p0 0) (ilt p1 0)) true))) = true
         · rw [if_pos c7] at h
           cases h
           refine FC_pure (lf := lf98) rfl rfl rfl ?_
           simp only [lf98, lc98]
           rcases tof (ieq p0 (-9223372036854775808)) with a8 | a8
           · rcases tof (ieq p1 (-1)) with a9 | a9
             · simp [c1, a8, a9] at c2
             · rcases tof (ine (irem p0 p1) 0) with a10 | a10
               · rcases tof (beqB (ilt p0 0) (ilt p1 0)) with a11 | a11
                 · simp [c1, a8, a9, a10, a11] at c7
                 · simp (maxSteps := 4000000) [c1, a8, a9, a10, a11, h5, h6, snap_tupE, tupS, snap7_int, snap7_bool, snap7_str, snap7_nils, snap7_agg]
               · simp [c1, a8, a9, a10] at c7
           · rcases tof (ine (irem p0 p1) 0) with a12 | a12
             · rcases tof (beqB (ilt p0 0) (ilt p1 0)) with a13 | a13
               · simp [c1, a8, a12, a13] at c7
               · simp (maxSteps := 4000000) [c1, a8, a12, a13, h5, h6, snap_tupE, tupS, snap7_int, snap7_bool, snap7_str, snap7_nils, snap7_agg]
             · simp [c1, a8, a12] at c7
         · rw [if_neg c7] at h
           rw [Bool.not_eq_true] at c7
           cases h
           refine FC_pure (lf := lf98) rfl rfl rfl ?_
           simp only [lf98, lc98]
           rcases tof (ieq p0 (-9223372036854775808)) with a14 | a14
           · rcases tof (ieq p1 (-1)) with a15 | a15
             · simp [c1, a14, a15] at c2
             · rcases tof (ine (irem p0 p1) 0) with a16 | a16
               · rcases tof (beqB (ilt p0 0) (ilt p1 0)) with a17 | a17
                 · simp (maxSteps := 4000000) [c1, a14, a15, a16, a17, h5, h6, snap_tupE, tupS, snap7_int, snap7_bool, snap7_str, snap7_nils, snap7_agg]
                 · simp [c1, a14, a15, a16, a17] at c7
               · simp (maxSteps := 4000000) [c1, a14, a15, a16, h5, h6, snap_tupE, tupS, snap7_int, snap7_bool, snap7_str, snap7_nils, snap7_agg]
           · rcases tof (ine (irem p0 p1) 0) with a18 | a18
             · rcases tof (beqB (ilt p0 0) (ilt p1 0)) with a19 | a19
               · simp (maxSteps := 4000000) [c1, a14, a18, a19, h5, h6, snap_tupE, tupS, snap7_int, snap7_bool, snap7_str, snap7_nils, snap7_agg]
               · simp [c1, a14, a18, a19] at c7
             · simp (maxSteps := 4000000) [c1, a14, a18, h5, h6, snap_tupE, tupS, snap7_int, snap7_bool, snap7_str, snap7_nils, snap7_agg]

/-! flow.Amounts -/
attribute [simp] c70_0 c70_1 c70_2 c70_3 c70_4 c70_5 c70_6 c70_7 c70_8 c70_9 c70_10 c70_11 c70_12 c70_13 c70_14 c70_15 c70_16 c70_17 c70_18 c70_19 c70_20 c70_21 c70_22 c70_23 c70_24 c70_25 c70_26 c70_28
theorem c70_L0_u (Γ : Env) (ps : List Nat) (σ : St) : EC Γ ps 0 c70_L0 σ = EC Γ ps 0 (.seq (.reg false c70_6) (.seq (.cond (.t 22) .skip (.seq (.trim [6]) (.exit 0))) (.seq (.blk 1 (.seq (.reg false c70_7) (.seq (.seq (.reg false c70_8) (.blk 2 (.seq (.seq (.reg false c70_9) (.cond (.t 27) .skip (.reg false c70_10))) (.cond (.t 27) (.seq (.seq (.reg false c70_11) (.cond (.t 30) (.seq (.reg false c70_12) (.seq (.trim [4, 5]) .ret)) .skip)) (.seq (.reg false c70_13) (.cond (.t 33) (.reg false c70_14) (.reg false c70_15)))) (.seq (.reg false c70_16) (.cond (.t 39) (.seq (.seq (.reg false c70_17) (.cond (.t 42) (.seq (.reg false c70_18) (.seq (.trim [4, 5]) .ret)) .skip)) (.reg false c70_19)) .skip)))))) (.seq (.seq (.reg false c70_20) (.cond (.t 44) (.seq (.reg false c70_21) (.seq (.trim [4, 5]) .ret)) .skip)) (.seq (.reg true c70_22) (.seq (.seq (.reg false c70_23) (.cond (.t 54) (.reg false c70_24) .skip)) (.reg false c70_25))))))) (.reg false c70_26)))) σ := rfl
attribute [simp ↓] c70_L0_u
def t_flow_Amounts_L0 (k0 : api_Settings) (k1 : (FS api_Op)) (k2 : Int) (s : ((FS Int) × Int × Bool × Int)) : Option (LR ((FS Int) × Int × Bool × Int) (((FS Int) × Int) ⊕ (FS Int))) := match s with
 | (s0, s1, s2, s3) => (if (ilt s3 k2) = true then (match fget k1 s3 with
 | none => none
 | some v8 => (if (ieq v8.Kind 3) = true then (if s2 = true then some (.dn (.inl ((FS.nil : (FS Int)), 11)))
 else (if (ieq v8.Kind 4) = true then (if (igt s1 1048576) = true then some (.dn (.inl ((FS.nil : (FS Int)), 2)))
 else (match t_flow_Volume s1 k0 with
 | none => none
 | some v15 => (match t_num_Floor v15 k0.Drop with
 | none => none
 | some v18 => (if fits 8 ((flen s0) + 1) = true then some (.nx ((fsnoc s0 (isub .i64 v18.1 k0.Retract)), s1, true, (iadd .i64 s3 1))) else none))))
 else (if (igt (iadd .i64 s1 (flen v8.Cells)) 1048576) = true then some (.dn (.inl ((FS.nil : (FS Int)), 2)))
 else (match t_flow_Volume (iadd .i64 s1 (flen v8.Cells)) k0 with
 | none => none
 | some v24 => (match t_num_Floor v24 k0.Drop with
 | none => none
 | some v27 => (if fits 8 ((flen s0) + 1) = true then some (.nx ((fsnoc s0 v27.1), (iadd .i64 s1 (flen v8.Cells)), s2, (iadd .i64 s3 1))) else none))))))
 else (if (ieq v8.Kind 4) = true then (if s2 = true then some (.dn (.inl ((FS.nil : (FS Int)), 11)))
 else (if (igt s1 1048576) = true then some (.dn (.inl ((FS.nil : (FS Int)), 2)))
 else (match t_flow_Volume s1 k0 with
 | none => none
 | some v35 => (match t_num_Floor v35 k0.Drop with
 | none => none
 | some v38 => (if fits 8 ((flen s0) + 1) = true then some (.nx ((fsnoc s0 (isub .i64 v38.1 k0.Retract)), s1, true, (iadd .i64 s3 1))) else none)))))
 else (if (ieq v8.Kind 5) = true then (if (bnot s2) = true then some (.dn (.inl ((FS.nil : (FS Int)), 11)))
 else (if (igt s1 1048576) = true then some (.dn (.inl ((FS.nil : (FS Int)), 2)))
 else (match t_flow_Volume s1 k0 with
 | none => none
 | some v46 => (match t_num_Floor v46 k0.Drop with
 | none => none
 | some v49 => (if fits 8 ((flen s0) + 1) = true then some (.nx ((fsnoc s0 v49.1), s1, false, (iadd .i64 s3 1))) else none)))))
 else (if (igt s1 1048576) = true then some (.dn (.inl ((FS.nil : (FS Int)), 2)))
 else (match t_flow_Volume s1 k0 with
 | none => none
 | some v55 => (match t_num_Floor v55 k0.Drop with
 | none => none
 | some v58 => (if s2 = true then (if fits 8 ((flen s0) + 1) = true then some (.nx ((fsnoc s0 (isub .i64 v58.1 k0.Retract)), s1, s2, (iadd .i64 s3 1))) else none)
 else (if fits 8 ((flen s0) + 1) = true then some (.nx ((fsnoc s0 v58.1), s1, s2, (iadd .i64 s3 1))) else none)))))))))
 else some (.dn (.inr s0)))
def t_flow_Amounts_L0_st (k0 : api_Settings) (k1 : (FS api_Op)) (k2 : Int) (s : ((FS Int) × Int × Bool × Int)) : St := match s with
 | (s0, s1, s2, s3) => ⟨fr [(3, .ptr 3 0 0), (6, .arr 6 0 0 s0.l.length), (7, .int .i64 s1), (8, .bool s2), (19, encF e_api_Op k1), (20, .int .i64 k2), (21, .int .i64 s3)], hl [(3, .box 0 [.int .i64 k0.Pitch, .int .i64 k0.Height, .int .i64 k0.Walls, .int .i64 k0.Top, .int .i64 k0.Bottom, .int .i64 k0.Pattern, .int .i64 k0.Spacing, .bool k0.Support, .int .i64 k0.Reach, .int .i64 k0.Gap, .int .i64 k0.Brim, .int .i64 k0.Skirt, .int .i64 k0.Drop, .int .i64 k0.Feed, .int .i64 k0.Travel, .int .i64 k0.Retract, .int .i64 k0.MinTime, .int .i64 k0.MinFeed, .int .i64 k0.Nozzle, .int .i64 k0.Bed]), (6, .arr 0 1 3 (cellsE e_i64 s0.l) false)]⟩
def t_flow_Amounts_L0_out (k0 : api_Settings) (k1 : (FS api_Op)) (k2 : Int) (x : (((FS Int) × Int) ⊕ (FS Int))) : LE × St := match x with
 | .inl x => (.ret, ⟨fr [(4, .nils), (5, .int .i64 x.2)], hl []⟩)
 | .inr x => (.exit 0, ⟨fr [(6, .arr 6 0 0 x.l.length)], hl [(6, .arr 0 1 3 (cellsE e_i64 x.l) false)]⟩)
theorem t_flow_Amounts_L0_ok {k0 : api_Settings} {k1 : (FS api_Op)} {k2 : Int} {s : ((FS Int) × Int × Bool × Int)} {r : (((FS Int) × Int) ⊕ (FS Int))} (h : loopT (t_flow_Amounts_L0 k0 k1 k2) bigN s = some r) : LK env [] 0 [3, 6, 7, 8, 19, 20, 21] c70_L0 (some (t_flow_Amounts_L0_st k0 k1 k2 s)) = some (t_flow_Amounts_L0_out k0 k1 k2 r) := loop_walk (st := t_flow_Amounts_L0_st k0 k1 k2) (out := t_flow_Amounts_L0_out k0 k1 k2) (by
 clear h s r
 rintro ⟨s0, s1, s2, s3⟩ x h
 simp only [t_flow_Amounts_L0] at h
 by_cases c6 : (ilt s3 k2) = true
 · rw [if_pos c6] at h
   cases h8 : fget k1 s3 with
   | none => (rw [h8] at h; cases h)
   | some v9 =>
    simp only [h8] at h
    have f7 := iaddr_F (e := e_api_Op) h8
    by_cases c10 : (ieq v9.Kind 3) = true
    · rw [if_pos c10] at h
      by_cases c11 : s2 = true
      · rw [if_pos c11] at h
        cases h
        show LK env [] 0 [3, 6, 7, 8, 19, 20, 21] c70_L0 (some (t_flow_Amounts_L0_st _ _ _ _)) = some (t_flow_Amounts_L0_out _ _ _ _)
        simp only [t_flow_Amounts_L0_st, t_flow_Amounts_L0_out]
        rw [LK_step]
        simp (maxSteps := 4000000) [c6, c10, c11, f7]
      · rw [if_neg c11] at h
        rw [Bool.not_eq_true] at c11
        by_cases c12 : (ieq v9.Kind 4) = true
        · rw [if_pos c12] at h
          by_cases c13 : (igt s1 1048576) = true
          · rw [if_pos c13] at h
            cases h
            show LK env [] 0 [3, 6, 7, 8, 19, 20, 21] c70_L0 (some (t_flow_Amounts_L0_st _ _ _ _)) = some (t_flow_Amounts_L0_out _ _ _ _)
            simp only [t_flow_Amounts_L0_st, t_flow_Amounts_L0_out]
            rw [LK_step]
            simp (maxSteps := 4000000) [c6, c10, c11, c12, c13, f7]
          · rw [if_neg c13] at h
            rw [Bool.not_eq_true] at c13
            cases h15 : t_flow_Volume s1 k0 with
            | none => (rw [h15] at h; cases h)
            | some v16 =>
             simp only [h15] at h
             have f14 := t_flow_Volume_ok h15
             cases h18 : t_num_Floor v16 k0.Drop with
             | none => (rw [h18] at h; cases h)
             | some v19 =>
              simp only [h18] at h
              have f17 := t_num_Floor_ok h18
              by_cases h21 : fits 8 ((flen s0) + 1) = true
              · rw [if_pos h21] at h
                have f20 := fun g0 H y => @app_row1 _ _ e_i64 _ s0 (isub .i64 v19.1 k0.Retract) 8 h21 (by decide) g0 H 6 0 3 y
                simp only [e_i64] at f20
                cases h
                show LK env [] 0 [3, 6, 7, 8, 19, 20, 21] c70_L0 (some (t_flow_Amounts_L0_st _ _ _ _)) = LK env [] 0 [3, 6, 7, 8, 19, 20, 21] c70_L0 (some (t_flow_Amounts_L0_st _ _ _ _))
                simp only [t_flow_Amounts_L0_st]
                rw [LK_step]
                simp (maxSteps := 4000000) [c6, c10, c11, c12, c13, f7, f14, f17, f20]
              · rw [if_neg h21] at h; cases h
        · rw [if_neg c12] at h
          rw [Bool.not_eq_true] at c12
          by_cases c22 : (igt (iadd .i64 s1 (flen v9.Cells)) 1048576) = true
          · rw [if_pos c22] at h
            cases h
            show LK env [] 0 [3, 6, 7, 8, 19, 20, 21] c70_L0 (some (t_flow_Amounts_L0_st _ _ _ _)) = some (t_flow_Amounts_L0_out _ _ _ _)
            simp only [t_flow_Amounts_L0_st, t_flow_Amounts_L0_out]
            rw [LK_step]
            simp (maxSteps := 4000000) [c6, c10, c11, c12, c22, f7]
          · rw [if_neg c22] at h
            rw [Bool.not_eq_true] at c22
            cases h24 : t_flow_Volume (iadd .i64 s1 (flen v9.Cells)) k0 with
            | none => (rw [h24] at h; cases h)
            | some v25 =>
             simp only [h24] at h
             have f23 := t_flow_Volume_ok h24
             cases h27 : t_num_Floor v25 k0.Drop with
             | none => (rw [h27] at h; cases h)
             | some v28 =>
              simp only [h27] at h
              have f26 := t_num_Floor_ok h27
              by_cases h30 : fits 8 ((flen s0) + 1) = true
              · rw [if_pos h30] at h
                have f29 := fun g0 H y => @app_row1 _ _ e_i64 _ s0 v28.1 8 h30 (by decide) g0 H 6 0 3 y
                simp only [e_i64] at f29
                cases h
                show LK env [] 0 [3, 6, 7, 8, 19, 20, 21] c70_L0 (some (t_flow_Amounts_L0_st _ _ _ _)) = LK env [] 0 [3, 6, 7, 8, 19, 20, 21] c70_L0 (some (t_flow_Amounts_L0_st _ _ _ _))
                simp only [t_flow_Amounts_L0_st]
                rw [LK_step]
                simp (maxSteps := 4000000) [c6, c10, c11, c12, c22, f7, f23, f26, f29]
              · rw [if_neg h30] at h; cases h
    · rw [if_neg c10] at h
      rw [Bool.not_eq_true] at c10
      by_cases c31 : (ieq v9.Kind 4) = true
      · rw [if_pos c31] at h
        by_cases c32 : s2 = true
        · rw [if_pos c32] at h
          cases h
          show LK env [] 0 [3, 6, 7, 8, 19, 20, 21] c70_L0 (some (t_flow_Amounts_L0_st _ _ _ _)) = some (t_flow_Amounts_L0_out _ _ _ _)
          simp only [t_flow_Amounts_L0_st, t_flow_Amounts_L0_out]
          rw [LK_step]
          simp (maxSteps := 4000000) [c6, c10, c31, c32, f7]
        · rw [if_neg c32] at h
          rw [Bool.not_eq_true] at c32
          by_cases c33 : (igt s1 1048576) = true
          · rw [if_pos c33] at h
            cases h
            show LK env [] 0 [3, 6, 7, 8, 19, 20, 21] c70_L0 (some (t_flow_Amounts_L0_st _ _ _ _)) = some (t_flow_Amounts_L0_out _ _ _ _)
            simp only [t_flow_Amounts_L0_st, t_flow_Amounts_L0_out]
            rw [LK_step]
            simp (maxSteps := 4000000) [c6, c10, c31, c32, c33, f7]
          · rw [if_neg c33] at h
            rw [Bool.not_eq_true] at c33
            cases h35 : t_flow_Volume s1 k0 with
            | none => (rw [h35] at h; cases h)
            | some v36 =>
             simp only [h35] at h
             have f34 := t_flow_Volume_ok h35
             cases h38 : t_num_Floor v36 k0.Drop with
             | none => (rw [h38] at h; cases h)
             | some v39 =>
              simp only [h38] at h
              have f37 := t_num_Floor_ok h38
              by_cases h41 : fits 8 ((flen s0) + 1) = true
              · rw [if_pos h41] at h
                have f40 := fun g0 H y => @app_row1 _ _ e_i64 _ s0 (isub .i64 v39.1 k0.Retract) 8 h41 (by decide) g0 H 6 0 3 y
                simp only [e_i64] at f40
                cases h
                show LK env [] 0 [3, 6, 7, 8, 19, 20, 21] c70_L0 (some (t_flow_Amounts_L0_st _ _ _ _)) = LK env [] 0 [3, 6, 7, 8, 19, 20, 21] c70_L0 (some (t_flow_Amounts_L0_st _ _ _ _))
                simp only [t_flow_Amounts_L0_st]
                rw [LK_step]
                simp (maxSteps := 4000000) [c6, c10, c31, c32, c33, f7, f34, f37, f40]
              · rw [if_neg h41] at h; cases h
      · rw [if_neg c31] at h
        rw [Bool.not_eq_true] at c31
        by_cases c42 : (ieq v9.Kind 5) = true
        · rw [if_pos c42] at h
          by_cases c43 : (bnot s2) = true
          · rw [if_pos c43] at h
            cases h
            show LK env [] 0 [3, 6, 7, 8, 19, 20, 21] c70_L0 (some (t_flow_Amounts_L0_st _ _ _ _)) = some (t_flow_Amounts_L0_out _ _ _ _)
            simp only [t_flow_Amounts_L0_st, t_flow_Amounts_L0_out]
            rw [LK_step]
            rcases tof s2 with a44 | a44
            · simp [c6, c10, c31, c42, a44] at c43
            · simp (maxSteps := 4000000) [c6, c10, c31, c42, a44, f7]
          · rw [if_neg c43] at h
            rw [Bool.not_eq_true] at c43
            by_cases c45 : (igt s1 1048576) = true
            · rw [if_pos c45] at h
              cases h
              show LK env [] 0 [3, 6, 7, 8, 19, 20, 21] c70_L0 (some (t_flow_Amounts_L0_st _ _ _ _)) = some (t_flow_Amounts_L0_out _ _ _ _)
              simp only [t_flow_Amounts_L0_st, t_flow_Amounts_L0_out]
              rw [LK_step]
              rcases tof s2 with a46 | a46
              · simp (maxSteps := 4000000) [c6, c10, c31, c42, a46, c45, f7]
              · simp [c6, c10, c31, c42, a46] at c43
            · rw [if_neg c45] at h
              rw [Bool.not_eq_true] at c45
              cases h48 : t_flow_Volume s1 k0 with
              | none => (rw [h48] at h; cases h)
              | some v49 =>
               simp only [h48] at h
               have f47 := t_flow_Volume_ok h48
               cases h51 : t_num_Floor v49 k0.Drop with
               | none => (rw [h51] at h; cases h)
               | some v52 =>
                simp only [h51] at h
                have f50 := t_num_Floor_ok h51
                by_cases h54 : fits 8 ((flen s0) + 1) = true
                · rw [if_pos h54] at h
                  have f53 := fun g0 H y => @app_row1 _ _ e_i64 _ s0 v52.1 8 h54 (by decide) g0 H 6 0 3 y
                  simp only [e_i64] at f53
                  cases h
                  show LK env [] 0 [3, 6, 7, 8, 19, 20, 21] c70_L0 (some (t_flow_Amounts_L0_st _ _ _ _)) = LK env [] 0 [3, 6, 7, 8, 19, 20, 21] c70_L0 (some (t_flow_Amounts_L0_st _ _ _ _))
                  simp only [t_flow_Amounts_L0_st]
                  rw [LK_step]
                  rcases tof s2 with a55 | a55
                  · simp (maxSteps := 4000000) [c6, c10, c31, c42, a55, c45, f7, f47, f50, f53]
                  · simp [c6, c10, c31, c42, a55] at c43
                · rw [if_neg h54] at h; cases h
        · rw [if_neg c42] at h
          rw [Bool.not_eq_true] at c42
          by_cases c56 : (igt s1 1048576) = true
          · rw [if_pos c56] at h
            cases h
            show LK env [] 0 [3, 6, 7, 8, 19, 20, 21] c70_L0 (some (t_flow_Amounts_L0_st _ _ _ _)) = some (t_flow_Amounts_L0_out _ _ _ _)
            simp only [t_flow_Amounts_L0_st, t_flow_Amounts_L0_out]
            rw [LK_step]
            simp (maxSteps := 4000000) [c6, c10, c31, c42, c56, f7]
          · rw [if_neg c56] at h
            rw [Bool.not_eq_true] at c56
            cases h58 : t_flow_Volume s1 k0 with
            | none => (rw [h58] at h; cases h)
            | some v59 =>
             simp only [h58] at h
             have f57 := t_flow_Volume_ok h58
             cases h61 : t_num_Floor v59 k0.Drop with
             | none => (rw [h61] at h; cases h)
             | some v62 =>
              simp only [h61] at h
              have f60 := t_num_Floor_ok h61
              by_cases c63 : s2 = true
              · rw [if_pos c63] at h
                by_cases h65 : fits 8 ((flen s0) + 1) = true
                · rw [if_pos h65] at h
                  have f64 := fun g0 H y => @app_row1 _ _ e_i64 _ s0 (isub .i64 v62.1 k0.Retract) 8 h65 (by decide) g0 H 6 0 3 y
                  simp only [e_i64] at f64
                  cases h
                  show LK env [] 0 [3, 6, 7, 8, 19, 20, 21] c70_L0 (some (t_flow_Amounts_L0_st _ _ _ _)) = LK env [] 0 [3, 6, 7, 8, 19, 20, 21] c70_L0 (some (t_flow_Amounts_L0_st _ _ _ _))
                  simp only [t_flow_Amounts_L0_st]
                  rw [LK_step]
                  simp (maxSteps := 4000000) [c6, c10, c31, c42, c56, c63, f7, f57, f60, f64]
                · rw [if_neg h65] at h; cases h
              · rw [if_neg c63] at h
                rw [Bool.not_eq_true] at c63
                by_cases h67 : fits 8 ((flen s0) + 1) = true
                · rw [if_pos h67] at h
                  have f66 := fun g0 H y => @app_row1 _ _ e_i64 _ s0 v62.1 8 h67 (by decide) g0 H 6 0 3 y
                  simp only [e_i64] at f66
                  cases h
                  show LK env [] 0 [3, 6, 7, 8, 19, 20, 21] c70_L0 (some (t_flow_Amounts_L0_st _ _ _ _)) = LK env [] 0 [3, 6, 7, 8, 19, 20, 21] c70_L0 (some (t_flow_Amounts_L0_st _ _ _ _))
                  simp only [t_flow_Amounts_L0_st]
                  rw [LK_step]
                  simp (maxSteps := 4000000) [c6, c10, c31, c42, c56, c63, f7, f57, f60, f66]
                · rw [if_neg h67] at h; cases h
 · rw [if_neg c6] at h
   rw [Bool.not_eq_true] at c6
   cases h
   show LK env [] 0 [3, 6, 7, 8, 19, 20, 21] c70_L0 (some (t_flow_Amounts_L0_st _ _ _ _)) = some (t_flow_Amounts_L0_out _ _ _ _)
   simp only [t_flow_Amounts_L0_st, t_flow_Amounts_L0_out]
   rw [LK_step]
   simp (maxSteps := 4000000) [c6]) bigN s r h
def t_flow_Amounts (p0 : (FS api_Op)) (p1 : api_Settings) : Option ((FS Int) × Int) := (if (bnot (u_flow_Valid p1)) = true then some ((FS.nil : (FS Int)), 1)
 else (if mkOK 8 0 (flen p0) = true then (match loopT (t_flow_Amounts_L0 p1 p0 (flen p0)) bigN ((frep 0 0), 0, false, 0) with
 | none => none
 | some v65 => (match v65 with
 | .inl v65x => some ((FS.nil : (FS Int)), v65x.2)
 | .inr v65x => some ((flst v65x), 0))) else none))
theorem t_flow_Amounts_ok {p0 : (FS api_Op)} {p1 : api_Settings} {r : ((FS Int) × Int)} (h : t_flow_Amounts p0 p1 = some r) : FC env 70 [encF e_api_Op p0, .agg [.int .i64 p1.Pitch, .int .i64 p1.Height, .int .i64 p1.Walls, .int .i64 p1.Top, .int .i64 p1.Bottom, .int .i64 p1.Pattern, .int .i64 p1.Spacing, .bool p1.Support, .int .i64 p1.Reach, .int .i64 p1.Gap, .int .i64 p1.Brim, .int .i64 p1.Skirt, .int .i64 p1.Drop, .int .i64 p1.Feed, .int .i64 p1.Travel, .int .i64 p1.Retract, .int .i64 p1.MinTime, .int .i64 p1.MinFeed, .int .i64 p1.Nozzle, .int .i64 p1.Bed]] none = some (.tup [encF e_i64 r.1, .int .i64 r.2], fun _ => none) := by
 unfold t_flow_Amounts at h
 have f1 := u_flow_Valid_ok p1
 by_cases c2 : (bnot (u_flow_Valid p1)) = true
 · rw [if_pos c2] at h
   cases h
   refine FC_pure (lf := lf70) rfl rfl rfl ?_
   simp only [lf70, lc70]
   rcases tof (u_flow_Valid p1) with a3 | a3
   · simp [a3] at c2
   · simp (maxSteps := 4000000) [a3, f1, snap_tupE, tupS, snap7_int, snap7_bool, snap7_str, snap7_nils, snap7_agg]
 · rw [if_neg c2] at h
   rw [Bool.not_eq_true] at c2
   by_cases h5 : mkOK 8 0 (flen p0) = true
   · rw [if_pos h5] at h
     have f4 := fun H g0 hg => @mk_row _ _ e_i64 _ 0 8 _ _ h5 H g0 hg 3
     simp only [e_i64] at f4
     cases h68 : loopT (t_flow_Amounts_L0 p1 p0 (flen p0)) bigN ((frep 0 0), 0, false, 0) with
     | none => (rw [h68] at h; cases h)
     | some v69 =>
      simp only [h68] at h
      have f70 := t_flow_Amounts_L0_ok h68
      cases v69 with
      | inl v69x =>
       try simp only at h
       simp only [t_flow_Amounts_L0_st, t_flow_Amounts_L0_out, fset_len] at f70
       try simp only [fcase_nil, fcase_lst, fcase_fsnoc, fcase_fapp, fcase_fset, fcase_frep, fcase_flit, fcase_flst] at f70
       cases h
       refine FC_pure (lf := lf70) rfl rfl rfl ?_
       simp only [lf70, lc70]
       rcases tof (u_flow_Valid p1) with a71 | a71
       · try simp only [a71] at f70
         simp (maxSteps := 4000000) [a71, f1, f4, f70, snap_tupE, tupS, snap7_int, snap7_bool, snap7_str, snap7_nils, snap7_agg]
       · simp [a71] at c2
      | inr v69x =>
       try simp only at h
       simp only [t_flow_Amounts_L0_st, t_flow_Amounts_L0_out, fset_len] at f70
       try simp only [fcase_nil, fcase_lst, fcase_fsnoc, fcase_fapp, fcase_fset, fcase_frep, fcase_flit, fcase_flst] at f70
       cases h
       refine FC_pure (lf := lf70) rfl rfl rfl ?_
       simp only [lf70, lc70]
       rcases tof (u_flow_Valid p1) with a72 | a72
       · try simp only [a72] at f70
         simp (maxSteps := 4000000) [a72, f1, f4, f70, snap_row7 (e := e_i64) (el := 3) (fz := false), snap_tupE, tupS, snap7_int, snap7_bool, snap7_str, snap7_nils, snap7_agg]
       · simp [a72] at c2
   · rw [if_neg h5] at h; cases h

/-! emit.onGrid -/
attribute [simp] c84_0 c84_1
def u_emit_onGrid (p0 : api_Cell) : Bool := (band (band (band (ige p0.X (-4096)) (ilt p0.X 4096)) (ige p0.Y (-4096))) (ilt p0.Y 4096))
def t_emit_onGrid (p0 : api_Cell) : Option Bool := some (u_emit_onGrid p0)
theorem u_emit_onGrid_ok (p0 : api_Cell) : FC env 84 [.agg [.int .i64 p0.X, .int .i64 p0.Y]] none = some (.bool (u_emit_onGrid p0), fun _ => none) := by
 unfold u_emit_onGrid
 refine FC_pure (lf := lf84) rfl rfl rfl ?_
 simp only [lf84, lc84]
 rcases tof (ige p0.X (-4096)) with a1 | a1
 · rcases tof (ilt p0.X 4096) with a2 | a2
   · rcases tof (ige p0.Y (-4096)) with a3 | a3
     · simp (maxSteps := 4000000) [a1, a2, a3]
     · simp (maxSteps := 4000000) [a1, a2, a3]
   · simp (maxSteps := 4000000) [a1, a2]
 · simp (maxSteps := 4000000) [a1]
theorem t_emit_onGrid_ok {p0 : api_Cell} {r : Bool} (h : t_emit_onGrid p0 = some r) : FC env 84 [.agg [.int .i64 p0.X, .int .i64 p0.Y]] none = some (.bool r, fun _ => none) := by
 cases h
 exact u_emit_onGrid_ok _

/-! emit.inside -/
attribute [simp] c71_0 c71_1 c71_2 c71_3 c71_4 c71_5 c71_6 c71_8
theorem c71_L0_u (Γ : Env) (ps : List Nat) (σ : St) : EC Γ ps 0 c71_L0 σ = EC Γ ps 0 (.seq (.reg false c71_2) (.seq (.cond (.t 8) .skip (.seq (.trim []) (.exit 0))) (.seq (.blk 1 (.seq (.reg false c71_3) (.seq (.reg false c71_4) (.cond (.t 13) (.seq (.reg false c71_5) (.seq (.trim [2]) .ret)) .skip)))) (.reg false c71_6)))) σ := rfl
attribute [simp ↓] c71_L0_u
def t_emit_inside_L0 (k0 : (FS api_Cell)) (k1 : Int) (s : Int) : Option (LR Int (Bool ⊕ Unit)) := match s with
 | s0 => (if (ilt s0 k1) = true then (match fget k0 s0 with
 | none => none
 | some v4 => (if (bnot (u_emit_onGrid v4)) = true then some (.dn (.inl false))
 else some (.nx (iadd .i64 s0 1))))
 else some (.dn (.inr ())))
def t_emit_inside_L0_st (k0 : (FS api_Cell)) (k1 : Int) (s : Int) : St := match s with
 | s0 => ⟨fr [(5, encF e_api_Cell k0), (6, .int .i64 k1), (7, .int .i64 s0)], hl []⟩
def t_emit_inside_L0_out (k0 : (FS api_Cell)) (k1 : Int) (x : (Bool ⊕ Unit)) : LE × St := match x with
 | .inl x => (.ret, ⟨fr [(2, .bool x)], hl []⟩)
 | .inr x => (.exit 0, ⟨fr [], hl []⟩)
theorem t_emit_inside_L0_ok {k0 : (FS api_Cell)} {k1 : Int} {s : Int} {r : (Bool ⊕ Unit)} (h : loopT (t_emit_inside_L0 k0 k1) bigN s = some r) : LK env [] 0 [5, 6, 7] c71_L0 (some (t_emit_inside_L0_st k0 k1 s)) = some (t_emit_inside_L0_out k0 k1 r) := loop_walk (st := t_emit_inside_L0_st k0 k1) (out := t_emit_inside_L0_out k0 k1) (by
 clear h s r
 rintro s0 x h
 simp only [t_emit_inside_L0] at h
 by_cases c1 : (ilt s0 k1) = true
 · rw [if_pos c1] at h
   cases h3 : fget k0 s0 with
   | none => (rw [h3] at h; cases h)
   | some v4 =>
    simp only [h3] at h
    have f2 := iaddr_F (e := e_api_Cell) h3
    have f5 := u_emit_onGrid_ok v4
    by_cases c6 : (bnot (u_emit_onGrid v4)) = true
    · rw [if_pos c6] at h
      cases h
      show LK env [] 0 [5, 6, 7] c71_L0 (some (t_emit_inside_L0_st _ _ _)) = some (t_emit_inside_L0_out _ _ _)
      simp only [t_emit_inside_L0_st, t_emit_inside_L0_out]
      rw [LK_step]
      rcases tof (u_emit_onGrid v4) with a7 | a7
      · simp [c1, a7] at c6
      · simp (maxSteps := 4000000) [c1, a7, f2, f5]
    · rw [if_neg c6] at h
      rw [Bool.not_eq_true] at c6
      cases h
      show LK env [] 0 [5, 6, 7] c71_L0 (some (t_emit_inside_L0_st _ _ _)) = LK env [] 0 [5, 6, 7] c71_L0 (some (t_emit_inside_L0_st _ _ _))
      simp only [t_emit_inside_L0_st]
      rw [LK_step]
      rcases tof (u_emit_onGrid v4) with a8 | a8
      · simp (maxSteps := 4000000) [c1, a8, f2, f5]
      · simp [c1, a8] at c6
 · rw [if_neg c1] at h
   rw [Bool.not_eq_true] at c1
   cases h
   show LK env [] 0 [5, 6, 7] c71_L0 (some (t_emit_inside_L0_st _ _ _)) = some (t_emit_inside_L0_out _ _ _)
   simp only [t_emit_inside_L0_st, t_emit_inside_L0_out]
   rw [LK_step]
   simp (maxSteps := 4000000) [c1]) bigN s r h
def t_emit_inside (p0 : (FS api_Cell)) : Option Bool := (match loopT (t_emit_inside_L0 p0 (flen p0)) bigN 0 with
 | none => none
 | some v8 => (match v8 with
 | .inl v8x => some v8x
 | .inr v8x => some true))
theorem t_emit_inside_ok {p0 : (FS api_Cell)} {r : Bool} (h : t_emit_inside p0 = some r) : FC env 71 [encF e_api_Cell p0] none = some (.bool r, fun _ => none) := by
 unfold t_emit_inside at h
 cases h9 : loopT (t_emit_inside_L0 p0 (flen p0)) bigN 0 with
 | none => (rw [h9] at h; cases h)
 | some v10 =>
  simp only [h9] at h
  have f11 := t_emit_inside_L0_ok h9
  cases v10 with
  | inl v10x =>
   try simp only at h
   simp only [t_emit_inside_L0_st, t_emit_inside_L0_out, fset_len] at f11
   try simp only [fcase_nil, fcase_lst, fcase_fsnoc, fcase_fapp, fcase_fset, fcase_frep, fcase_flit, fcase_flst] at f11
   cases h
   refine FC_pure (lf := lf71) rfl rfl rfl ?_
   simp only [lf71, lc71]
   simp (maxSteps := 4000000) [f11]
  | inr v10x =>
   try simp only at h
   simp only [t_emit_inside_L0_st, t_emit_inside_L0_out, fset_len] at f11
   try simp only [fcase_nil, fcase_lst, fcase_fsnoc, fcase_fapp, fcase_fset, fcase_frep, fcase_flit, fcase_flst] at f11
   cases h
   refine FC_pure (lf := lf71) rfl rfl rfl ?_
   simp only [lf71, lc71]
   simp (maxSteps := 4000000) [f11]

/-! emit.handler -/
attribute [simp] c72_0 c72_1 c72_2 c72_3 c72_4 c72_5 c72_6 c72_7 c72_8 c72_9 c72_10 c72_11 c72_12 c72_13
def t_emit_handler (p0 : Int) : Option Nat := (if (ieq p0 1) = true then some 100
 else (if (ieq p0 2) = true then some 101
 else (if (ieq p0 3) = true then some 102
 else (if (ieq p0 4) = true then some 103
 else (if (ieq p0 5) = true then some 103
 else (if (ieq p0 6) = true then some 104
 else some 105))))))
theorem t_emit_handler_ok {p0 : Int} {r : Nat} (h : t_emit_handler p0 = some r) : FC env 72 [.int .i64 p0] none = some (.fn r [], fun _ => none) := by
 unfold t_emit_handler at h
 by_cases c1 : (ieq p0 1) = true
 · rw [if_pos c1] at h
   cases h
   refine FC_pure (lf := lf72) rfl rfl rfl ?_
   simp only [lf72, lc72]
   simp (maxSteps := 4000000) [c1]
 · rw [if_neg c1] at h
   rw [Bool.not_eq_true] at c1
   by_cases c2 : (ieq p0 2) = true
   · rw [if_pos c2] at h
     cases h
     refine FC_pure (lf := lf72) rfl rfl rfl ?_
     simp only [lf72, lc72]
     simp (maxSteps := 4000000) [c1, c2]
   · rw [if_neg c2] at h
     rw [Bool.not_eq_true] at c2
     by_cases c3 : (ieq p0 3) = true
     · rw [if_pos c3] at h
       cases h
       refine FC_pure (lf := lf72) rfl rfl rfl ?_
       simp only [lf72, lc72]
       simp (maxSteps := 4000000) [c1, c2, c3]
     · rw [if_neg c3] at h
       rw [Bool.not_eq_true] at c3
       by_cases c4 : (ieq p0 4) = true
       · rw [if_pos c4] at h
         cases h
         refine FC_pure (lf := lf72) rfl rfl rfl ?_
         simp only [lf72, lc72]
         simp (maxSteps := 4000000) [c1, c2, c3, c4]
       · rw [if_neg c4] at h
         rw [Bool.not_eq_true] at c4
         by_cases c5 : (ieq p0 5) = true
         · rw [if_pos c5] at h
           cases h
           refine FC_pure (lf := lf72) rfl rfl rfl ?_
           simp only [lf72, lc72]
           simp (maxSteps := 4000000) [c1, c2, c3, c4, c5]
         · rw [if_neg c5] at h
           rw [Bool.not_eq_true] at c5
           by_cases c6 : (ieq p0 6) = true
           · rw [if_pos c6] at h
             cases h
             refine FC_pure (lf := lf72) rfl rfl rfl ?_
             simp only [lf72, lc72]
             simp (maxSteps := 4000000) [c1, c2, c3, c4, c5, c6]
           · rw [if_neg c6] at h
             rw [Bool.not_eq_true] at c6
             cases h
             refine FC_pure (lf := lf72) rfl rfl rfl ?_
             simp only [lf72, lc72]
             simp (maxSteps := 4000000) [c1, c2, c3, c4, c5, c6]

/-! emit.emitter).nothing -/
attribute [simp] c105_0
def t_emit_emitter_nothing (p0 : emit_emitter) (p1 : api_Op) : Option emit_emitter := some (⟨p0.settings, p0.amount, p0.cells, p0.nozzle, p0.speed, p0.has, p0.out, p0.code⟩ : emit_emitter)
theorem t_emit_emitter_nothing_okN {p0 : emit_emitter} {p1 : api_Op} (e06 : p0.out = FS.nil) {r : emit_emitter} (h : t_emit_emitter_nothing p0 p1 = some r) : FC env 105 [.ptr 0 0 0, .agg [.int .i64 p1.Kind, .int .i64 p1.Role, .int .i64 p1.Layer, .int .i64 p1.Z, .int .i64 p1.Speed, encF e_api_Cell p1.Cells]] (some (hl [(0, .box 0 [.int .i64 p0.settings.Pitch, .int .i64 p0.settings.Height, .int .i64 p0.settings.Walls, .int .i64 p0.settings.Top, .int .i64 p0.settings.Bottom, .int .i64 p0.settings.Pattern, .int .i64 p0.settings.Spacing, .bool p0.settings.Support, .int .i64 p0.settings.Reach, .int .i64 p0.settings.Gap, .int .i64 p0.settings.Brim, .int .i64 p0.settings.Skirt, .int .i64 p0.settings.Drop, .int .i64 p0.settings.Feed, .int .i64 p0.settings.Travel, .int .i64 p0.settings.Retract, .int .i64 p0.settings.MinTime, .int .i64 p0.settings.MinFeed, .int .i64 p0.settings.Nozzle, .int .i64 p0.settings.Bed, .int .i64 p0.amount, .int .i64 p0.cells, .int .i64 p0.nozzle.X, .int .i64 p0.nozzle.Y, .int .i64 p0.speed, .bool p0.has, .nils, .int .i64 p0.code])], 0)) = some (.tup [], hl [(0, .box 0 [.int .i64 r.settings.Pitch, .int .i64 r.settings.Height, .int .i64 r.settings.Walls, .int .i64 r.settings.Top, .int .i64 r.settings.Bottom, .int .i64 r.settings.Pattern, .int .i64 r.settings.Spacing, .bool r.settings.Support, .int .i64 r.settings.Reach, .int .i64 r.settings.Gap, .int .i64 r.settings.Brim, .int .i64 r.settings.Skirt, .int .i64 r.settings.Drop, .int .i64 r.settings.Feed, .int .i64 r.settings.Travel, .int .i64 r.settings.Retract, .int .i64 r.settings.MinTime, .int .i64 r.settings.MinFeed, .int .i64 r.settings.Nozzle, .int .i64 r.settings.Bed, .int .i64 r.amount, .int .i64 r.cells, .int .i64 r.nozzle.X, .int .i64 r.nozzle.Y, .int .i64 r.speed, .bool r.has, .nils, .int .i64 r.code])]) ∧ r.out = FS.nil := by
 unfold t_emit_emitter_nothing at h
 simp only [e06, flen_nil] at h
 cases h
 refine ⟨?_, by first | rfl | simp [*]⟩
 refine FC_byref (lf := lf105) rfl rfl rfl ?_
 simp only [lf105, lc105]
 simp (maxSteps := 4000000) [e06]
theorem t_emit_emitter_nothing_okO {p0 : emit_emitter} {p1 : api_Op} {le06 : List api_Cmd} (e06 : p0.out = FS.lst le06) {r : emit_emitter} (h : t_emit_emitter_nothing p0 p1 = some r) : FC env 105 [.ptr 0 0 0, .agg [.int .i64 p1.Kind, .int .i64 p1.Role, .int .i64 p1.Layer, .int .i64 p1.Z, .int .i64 p1.Speed, encF e_api_Cell p1.Cells]] (some (hl [(0, .box 0 [.int .i64 p0.settings.Pitch, .int .i64 p0.settings.Height, .int .i64 p0.settings.Walls, .int .i64 p0.settings.Top, .int .i64 p0.settings.Bottom, .int .i64 p0.settings.Pattern, .int .i64 p0.settings.Spacing, .bool p0.settings.Support, .int .i64 p0.settings.Reach, .int .i64 p0.settings.Gap, .int .i64 p0.settings.Brim, .int .i64 p0.settings.Skirt, .int .i64 p0.settings.Drop, .int .i64 p0.settings.Feed, .int .i64 p0.settings.Travel, .int .i64 p0.settings.Retract, .int .i64 p0.settings.MinTime, .int .i64 p0.settings.MinFeed, .int .i64 p0.settings.Nozzle, .int .i64 p0.settings.Bed, .int .i64 p0.amount, .int .i64 p0.cells, .int .i64 p0.nozzle.X, .int .i64 p0.nozzle.Y, .int .i64 p0.speed, .bool p0.has, .arr 1000026 0 0 p0.out.l.length, .int .i64 p0.code]), (1000026, .arr 0 8 55 (cellsE e_api_Cmd p0.out.l) false)], 0)) = some (.tup [], hl [(0, .box 0 [.int .i64 r.settings.Pitch, .int .i64 r.settings.Height, .int .i64 r.settings.Walls, .int .i64 r.settings.Top, .int .i64 r.settings.Bottom, .int .i64 r.settings.Pattern, .int .i64 r.settings.Spacing, .bool r.settings.Support, .int .i64 r.settings.Reach, .int .i64 r.settings.Gap, .int .i64 r.settings.Brim, .int .i64 r.settings.Skirt, .int .i64 r.settings.Drop, .int .i64 r.settings.Feed, .int .i64 r.settings.Travel, .int .i64 r.settings.Retract, .int .i64 r.settings.MinTime, .int .i64 r.settings.MinFeed, .int .i64 r.settings.Nozzle, .int .i64 r.settings.Bed, .int .i64 r.amount, .int .i64 r.cells, .int .i64 r.nozzle.X, .int .i64 r.nozzle.Y, .int .i64 r.speed, .bool r.has, .arr 1000026 0 0 r.out.l.length, .int .i64 r.code]), (1000026, .arr 0 8 55 (cellsE e_api_Cmd r.out.l) false)]) ∧ ∃ l, r.out = FS.lst l := by
 unfold t_emit_emitter_nothing at h
 simp only [e06, flen_nil] at h
 cases h
 refine ⟨?_, by first | exact ⟨_, rfl⟩ | exact ⟨_, by assumption⟩⟩
 refine FC_byref (lf := lf105) rfl rfl rfl ?_
 simp only [lf105, lc105]
 simp (maxSteps := 4000000) [e06]

/-! gcode.words -/
attribute [simp] c128_0 c128_1 c128_2 c128_3 c128_4 c128_5 c128_6 c128_7 c128_8 c128_9 c128_10 c128_11 c128_12 c128_13 c128_14 c128_15 c128_16 c128_17 c128_18 c128_19 c128_20
def t_gcode_words (p0 : Int) : Option (Int × Bool × Bool) := (if (ieq p0 0) = true then some (23, false, true)
 else (if (ieq p0 1) = true then some (31, false, true)
 else (if (ieq p0 4) = true then some (32, true, true)
 else (if (ieq p0 1104) = true then some (32, true, true)
 else (if (ieq p0 1109) = true then some (32, true, true)
 else (if (ieq p0 1140) = true then some (32, true, true)
 else (if (ieq p0 1190) = true then some (32, true, true)
 else (if (ieq p0 1106) = true then some (32, true, true)
 else (if (ieq p0 28) = true then some (0, true, true)
 else (if (ieq p0 1024) = true then some (0, true, true)
 else (if (ieq p0 1025) = true then some (0, true, true)
 else (if (ieq p0 1107) = true then some (0, true, true)
 else (if (ieq p0 1112) = true then some (0, true, true)
 else (if (ieq p0 1999) = true then some (0, true, true)
 else some (0, false, false)))))))))))))))
theorem t_gcode_words_ok {p0 : Int} {r : (Int × Bool × Bool)} (h : t_gcode_words p0 = some r) : FC env 128 [.int .i64 p0] none = some (.tup [.int .i64 r.1, .bool r.2.1, .bool r.2.2], fun _ => none) := by
 unfold t_gcode_words at h
 by_cases c1 : (ieq p0 0) = true
 · rw [if_pos c1] at h
   cases h
   refine FC_pure (lf := lf128) rfl rfl rfl ?_
   simp only [lf128, lc128]
   simp (maxSteps := 4000000) [c1, snap_tupE, tupS, snap7_int, snap7_bool, snap7_str, snap7_nils, snap7_agg]
 · rw [if_neg c1] at h
   rw [Bool.not_eq_true] at c1
   by_cases c2 : (ieq p0 1) = true
   · rw [if_pos c2] at h
     cases h
     refine FC_pure (lf := lf128) rfl rfl rfl ?_
     simp only [lf128, lc128]
     simp (maxSteps := 4000000) [c1, c2, snap_tupE, tupS, snap7_int, snap7_bool, snap7_str, snap7_nils, snap7_agg]
   · rw [if_neg c2] at h
     rw [Bool.not_eq_true] at c2
     by_cases c3 : (ieq p0 4) = true
     · rw [if_pos c3] at h
       cases h
       refine FC_pure (lf := lf128) rfl rfl rfl ?_
       simp only [lf128, lc128]
       simp (maxSteps := 4000000) [c1, c2, c3, snap_tupE, tupS, snap7_int, snap7_bool, snap7_str, snap7_nils, snap7_agg]
     · rw [if_neg c3] at h
       rw [Bool.not_eq_true] at c3
       by_cases c4 : (ieq p0 1104) = true
       · rw [if_pos c4] at h
         cases h
         refine FC_pure (lf := lf128) rfl rfl rfl ?_
         simp only [lf128, lc128]
         simp (maxSteps := 4000000) [c1, c2, c3, c4, snap_tupE, tupS, snap7_int, snap7_bool, snap7_str, snap7_nils, snap7_agg]
       · rw [if_neg c4] at h
         rw [Bool.not_eq_true] at c4
         by_cases c5 : (ieq p0 1109) = true
         · rw [if_pos c5] at h
           cases h
           refine FC_pure (lf := lf128) rfl rfl rfl ?_
           simp only [lf128, lc128]
           simp (maxSteps := 4000000) [c1, c2, c3, c4, c5, snap_tupE, tupS, snap7_int, snap7_bool, snap7_str, snap7_nils, snap7_agg]
         · rw [if_neg c5] at h
           rw [Bool.not_eq_true] at c5
           by_cases c6 : (ieq p0 1140) = true
           · rw [if_pos c6] at h
             cases h
             refine FC_pure (lf := lf128) rfl rfl rfl ?_
             simp only [lf128, lc128]
             simp (maxSteps := 4000000) [c1, c2, c3, c4, c5, c6, snap_tupE, tupS, snap7_int, snap7_bool, snap7_str, snap7_nils, snap7_agg]
           · rw [if_neg c6] at h
             rw [Bool.not_eq_true] at c6
             by_cases c7 : (ieq p0 1190) = true
             · rw [if_pos c7] at h
               cases h
               refine FC_pure (lf := lf128) rfl rfl rfl ?_
               simp only [lf128, lc128]
               simp (maxSteps := 4000000) [c1, c2, c3, c4, c5, c6, c7, snap_tupE, tupS, snap7_int, snap7_bool, snap7_str, snap7_nils, snap7_agg]
             · rw [if_neg c7] at h
               rw [Bool.not_eq_true] at c7
               by_cases c8 : (ieq p0 1106) = true
               · rw [if_pos c8] at h
                 cases h
                 refine FC_pure (lf := lf128) rfl rfl rfl ?_
                 simp only [lf128, lc128]
                 simp (maxSteps := 4000000) [c1, c2, c3, c4, c5, c6, c7, c8, snap_tupE, tupS, snap7_int, snap7_bool, snap7_str, snap7_nils, snap7_agg]
               · rw [if_neg c8] at h
                 rw [Bool.not_eq_true] at c8
                 by_cases c9 : (ieq p0 28) = true
                 · rw [if_pos c9] at h
                   cases h
                   refine FC_pure (lf := lf128) rfl rfl rfl ?_
                   simp only [lf128, lc128]
                   simp (maxSteps := 4000000) [c1, c2, c3, c4, c5, c6, c7, c8, c9, snap_tupE, tupS, snap7_int, snap7_bool, snap7_str, snap7_nils, snap7_agg]
                 · rw [if_neg c9] at h
                   rw [Bool.not_eq_true] at c9
                   by_cases c10 : (ieq p0 1024) = true
                   · rw [if_pos c10] at h
                     cases h
                     refine FC_pure (lf := lf128) rfl rfl rfl ?_
                     simp only [lf128, lc128]
                     simp (maxSteps := 4000000) [c1, c2, c3, c4, c5, c6, c7, c8, c9, c10, snap_tupE, tupS, snap7_int, snap7_bool, snap7_str, snap7_nils, snap7_agg]
                   · rw [if_neg c10] at h
                     rw [Bool.not_eq_true] at c10
                     by_cases c11 : (ieq p0 1025) = true
                     · rw [if_pos c11] at h
                       cases h
                       refine FC_pure (lf := lf128) rfl rfl rfl ?_
                       simp only [lf128, lc128]
                       simp (maxSteps := 4000000) [c1, c2, c3, c4, c5, c6, c7, c8, c9, c10, c11, snap_tupE, tupS, snap7_int, snap7_bool, snap7_str, snap7_nils, snap7_agg]
                     · rw [if_neg c11] at h
                       rw [Bool.not_eq_true] at c11
                       by_cases c12 : (ieq p0 1107) = true
                       · rw [if_pos c12] at h
                         cases h
                         refine FC_pure (lf := lf128) rfl rfl rfl ?_
                         simp only [lf128, lc128]
                         simp (maxSteps := 4000000) [c1, c2, c3, c4, c5, c6, c7, c8, c9, c10, c11, c12, snap_tupE, tupS, snap7_int, snap7_bool, snap7_str, snap7_nils, snap7_agg]
                       · rw [if_neg c12] at h
                         rw [Bool.not_eq_true] at c12
                         by_cases c13 : (ieq p0 1112) = true
                         · rw [if_pos c13] at h
                           cases h
                           refine FC_pure (lf := lf128) rfl rfl rfl ?_
                           simp only [lf128, lc128]
                           simp (maxSteps := 4000000) [c1, c2, c3, c4, c5, c6, c7, c8, c9, c10, c11, c12, c13, snap_tupE, tupS, snap7_int, snap7_bool, snap7_str, snap7_nils, snap7_agg]
                         · rw [if_neg c13] at h
                           rw [Bool.not_eq_true] at c13
                           by_cases c14 : (ieq p0 1999) = true
                           · rw [if_pos c14] at h
                             cases h
                             refine FC_pure (lf := lf128) rfl rfl rfl ?_
                             simp only [lf128, lc128]
                             simp (maxSteps := 4000000) [c1, c2, c3, c4, c5, c6, c7, c8, c9, c10, c11, c12, c13, c14, snap_tupE, tupS, snap7_int, snap7_bool, snap7_str, snap7_nils, snap7_agg]
                           · rw [if_neg c14] at h
                             rw [Bool.not_eq_true] at c14
                             cases h
                             refine FC_pure (lf := lf128) rfl rfl rfl ?_
                             simp only [lf128, lc128]
                             simp (maxSteps := 4000000) [c1, c2, c3, c4, c5, c6, c7, c8, c9, c10, c11, c12, c13, c14, snap_tupE, tupS, snap7_int, snap7_bool, snap7_str, snap7_nils, snap7_agg]

/-! gcode.field -/
attribute [simp] c129_0 c129_1 c129_2 c129_3 c129_4 c129_5 c129_6 c129_7 c129_8 c129_9 c129_10 c129_11 c129_12
def t_gcode_field (p0 : api_Cmd) (p1 : Int) : Option (Nat × api_Cmd) := (if (ieq p1 0) = true then some (2, p0)
 else (if (ieq p1 1) = true then some (3, p0)
 else (if (ieq p1 2) = true then some (4, p0)
 else (if (ieq p1 3) = true then some (5, p0)
 else (if (ieq p1 4) = true then some (6, p0)
 else some (7, p0))))))
theorem t_gcode_field_ok {p0 : api_Cmd} {p1 : Int} {r : (Nat × api_Cmd)} (h : t_gcode_field p0 p1 = some r) : FC env 129 [.ptr 0 0 0, .int .i64 p1] (some (hl [(0, .box 0 [.int .i64 p0.Code, .int .i64 p0.Has, .int .i64 p0.X, .int .i64 p0.Y, .int .i64 p0.Z, .int .i64 p0.E, .int .i64 p0.F, .int .i64 p0.S])], 0)) = some (.ptr 0 0 r.1, hl [(0, .box 0 [.int .i64 r.2.Code, .int .i64 r.2.Has, .int .i64 r.2.X, .int .i64 r.2.Y, .int .i64 r.2.Z, .int .i64 r.2.E, .int .i64 r.2.F, .int .i64 r.2.S])]) := by
 unfold t_gcode_field at h
 by_cases c1 : (ieq p1 0) = true
 · rw [if_pos c1] at h
   cases h
   refine FC_byref (lf := lf129) rfl rfl rfl ?_
   simp only [lf129, lc129]
   simp (maxSteps := 4000000) [c1]
 · rw [if_neg c1] at h
   rw [Bool.not_eq_true] at c1
   by_cases c2 : (ieq p1 1) = true
   · rw [if_pos c2] at h
     cases h
     refine FC_byref (lf := lf129) rfl rfl rfl ?_
     simp only [lf129, lc129]
     simp (maxSteps := 4000000) [c1, c2]
   · rw [if_neg c2] at h
     rw [Bool.not_eq_true] at c2
     by_cases c3 : (ieq p1 2) = true
     · rw [if_pos c3] at h
       cases h
       refine FC_byref (lf := lf129) rfl rfl rfl ?_
       simp only [lf129, lc129]
       simp (maxSteps := 4000000) [c1, c2, c3]
     · rw [if_neg c3] at h
       rw [Bool.not_eq_true] at c3
       by_cases c4 : (ieq p1 3) = true
       · rw [if_pos c4] at h
         cases h
         refine FC_byref (lf := lf129) rfl rfl rfl ?_
         simp only [lf129, lc129]
         simp (maxSteps := 4000000) [c1, c2, c3, c4]
       · rw [if_neg c4] at h
         rw [Bool.not_eq_true] at c4
         by_cases c5 : (ieq p1 4) = true
         · rw [if_pos c5] at h
           cases h
           refine FC_byref (lf := lf129) rfl rfl rfl ?_
           simp only [lf129, lc129]
           simp (maxSteps := 4000000) [c1, c2, c3, c4, c5]
         · rw [if_neg c5] at h
           rw [Bool.not_eq_true] at c5
           cases h
           refine FC_byref (lf := lf129) rfl rfl rfl ?_
           simp only [lf129, lc129]
           simp (maxSteps := 4000000) [c1, c2, c3, c4, c5]

/-! gcode.span -/
attribute [simp] c130_0 c130_1 c130_2 c130_3 c130_4 c130_5 c130_6 c130_7 c130_8 c130_9
def t_gcode_span (p0 : Int) (p1 : Int) : Option (Int × Int) := (if (ieq p1 4) = true then some (1, 1048576)
 else (if (ine p1 5) = true then some ((-1073741824), 1073741824)
 else (if (ieq p0 4) = true then some (0, 1048576)
 else (if (ieq p0 1106) = true then some (0, 255)
 else some (0, 400000)))))
theorem t_gcode_span_ok {p0 : Int} {p1 : Int} {r : (Int × Int)} (h : t_gcode_span p0 p1 = some r) : FC env 130 [.int .i64 p0, .int .i64 p1] none = some (.tup [.int .i64 r.1, .int .i64 r.2], fun _ => none) := by
 unfold t_gcode_span at h
 by_cases c1 : (ieq p1 4) = true
 · rw [if_pos c1] at h
   cases h
   refine FC_pure (lf := lf130) rfl rfl rfl ?_
   simp only [lf130, lc130]
   simp (maxSteps := 4000000) [c1, snap_tupE, tupS, snap7_int, snap7_bool, snap7_str, snap7_nils, snap7_agg]
 · rw [if_neg c1] at h
   rw [Bool.not_eq_true] at c1
   by_cases c2 : (ine p1 5) = true
   · rw [if_pos c2] at h
     cases h
     refine FC_pure (lf := lf130) rfl rfl rfl ?_
     simp only [lf130, lc130]
     simp (maxSteps := 4000000) [c1, c2, snap_tupE, tupS, snap7_int, snap7_bool, snap7_str, snap7_nils, snap7_agg]
   · rw [if_neg c2] at h
     rw [Bool.not_eq_true] at c2
     by_cases c3 : (ieq p0 4) = true
     · rw [if_pos c3] at h
       cases h
       refine FC_pure (lf := lf130) rfl rfl rfl ?_
       simp only [lf130, lc130]
       simp (maxSteps := 4000000) [c1, c2, c3, snap_tupE, tupS, snap7_int, snap7_bool, snap7_str, snap7_nils, snap7_agg]
     · rw [if_neg c3] at h
       rw [Bool.not_eq_true] at c3
       by_cases c4 : (ieq p0 1106) = true
       · rw [if_pos c4] at h
         cases h
         refine FC_pure (lf := lf130) rfl rfl rfl ?_
         simp only [lf130, lc130]
         simp (maxSteps := 4000000) [c1, c2, c3, c4, snap_tupE, tupS, snap7_int, snap7_bool, snap7_str, snap7_nils, snap7_agg]
       · rw [if_neg c4] at h
         rw [Bool.not_eq_true] at c4
         cases h
         refine FC_pure (lf := lf130) rfl rfl rfl ?_
         simp only [lf130, lc130]
         simp (maxSteps := 4000000) [c1, c2, c3, c4, snap_tupE, tupS, snap7_int, snap7_bool, snap7_str, snap7_nils, snap7_agg]

/-! gcode.Valid -/
attribute [simp] c125_0 c125_1 c125_2 c125_3 c125_4 c125_5 c125_6 c125_7 c125_8 c125_9 c125_10 c125_11 c125_12 c125_13 c125_15
theorem c125_L0_u (Γ : Env) (ps : List Nat) (σ : St) : EC Γ ps 0 c125_L0 σ = EC Γ ps 0 (.seq (.reg false c125_5) (.seq (.cond (.t 36) .skip (.seq (.trim []) (.exit 0))) (.seq (.blk 1 (.seq (.reg false c125_6) (.seq (.reg false c125_7) (.seq (.reg false c125_8) (.seq (.seq (.reg false c125_9) (.cond (.t 54) (.reg false c125_10) .skip)) (.seq (.reg false c125_11) (.cond (.t 62) (.seq (.reg false c125_12) (.seq (.trim [2]) .ret)) .skip))))))) (.reg false c125_13)))) σ := rfl
attribute [simp ↓] c125_L0_u
def t_gcode_Valid_L0  (s : (api_Cmd × Int)) : Option (LR (api_Cmd × Int) (Bool ⊕ Unit)) := match s with
 | (s0, s1) => (if (ilt s1 6) = true then (match t_gcode_field s0 s1 with
 | none => none
 | some v7 => (if (v7.1 == 2 || v7.1 == 3 || v7.1 == 4 || v7.1 == 5 || v7.1 == 6 || v7.1 == 7) = true then (match t_gcode_span v7.2.Code s1 with
 | none => none
 | some v12 => (if ilt s1 0 = true then none else (if (ieq (iand .i64 (ishr .i64 v7.2.Has s1) 1) 0) = true then (if (bor (ilt (if v7.1 = 2 then v7.2.X else if v7.1 = 3 then v7.2.Y else if v7.1 = 4 then v7.2.Z else if v7.1 = 5 then v7.2.E else if v7.1 = 6 then v7.2.F else v7.2.S) 0) (igt (if v7.1 = 2 then v7.2.X else if v7.1 = 3 then v7.2.Y else if v7.1 = 4 then v7.2.Z else if v7.1 = 5 then v7.2.E else if v7.1 = 6 then v7.2.F else v7.2.S) 0)) = true then some (.dn (.inl false))
 else some (.nx (v7.2, (iadd .i64 s1 1))))
 else (if (bor (ilt (if v7.1 = 2 then v7.2.X else if v7.1 = 3 then v7.2.Y else if v7.1 = 4 then v7.2.Z else if v7.1 = 5 then v7.2.E else if v7.1 = 6 then v7.2.F else v7.2.S) v12.1) (igt (if v7.1 = 2 then v7.2.X else if v7.1 = 3 then v7.2.Y else if v7.1 = 4 then v7.2.Z else if v7.1 = 5 then v7.2.E else if v7.1 = 6 then v7.2.F else v7.2.S) v12.2)) = true then some (.dn (.inl false))
 else some (.nx (v7.2, (iadd .i64 s1 1))))))) else none))
 else some (.dn (.inr ())))
def t_gcode_Valid_L0_st  (s : (api_Cmd × Int)) : St := match s with
 | (s0, s1) => ⟨fr [(1, .ptr 1 0 0), (35, .int .i64 s1)], hl [(1, .box 0 [.int .i64 s0.Code, .int .i64 s0.Has, .int .i64 s0.X, .int .i64 s0.Y, .int .i64 s0.Z, .int .i64 s0.E, .int .i64 s0.F, .int .i64 s0.S])]⟩
def t_gcode_Valid_L0_out  (x : (Bool ⊕ Unit)) : LE × St := match x with
 | .inl x => (.ret, ⟨fr [(2, .bool x)], hl []⟩)
 | .inr x => (.exit 0, ⟨fr [], hl []⟩)
theorem t_gcode_Valid_L0_ok  {s : (api_Cmd × Int)} {r : (Bool ⊕ Unit)} (h : loopT (t_gcode_Valid_L0 ) bigN s = some r) : LK env [] 0 [1, 35] c125_L0 (some (t_gcode_Valid_L0_st  s)) = some (t_gcode_Valid_L0_out  r) := loop_walk (st := t_gcode_Valid_L0_st ) (out := t_gcode_Valid_L0_out ) (by
 clear h s r
 rintro ⟨s0, s1⟩ x h
 simp only [t_gcode_Valid_L0] at h
 by_cases c9 : (ilt s1 6) = true
 · rw [if_pos c9] at h
   cases h10 : t_gcode_field s0 s1 with
   | none => (rw [h10] at h; cases h)
   | some v11 =>
    simp only [h10] at h
    have f12 := t_gcode_field_ok h10
    try simp only [fcase_nil, fcase_lst, fcase_fsnoc, fcase_fapp, fcase_fset, fcase_frep, fcase_flit, fcase_flst] at f12
    by_cases h29 : (v11.1 == 2 || v11.1 == 3 || v11.1 == 4 || v11.1 == 5 || v11.1 == 6 || v11.1 == 7) = true
    · rw [if_pos h29] at h
      have f13 : pack false [.int .i64 v11.2.Code, .int .i64 v11.2.Has, .int .i64 v11.2.X, .int .i64 v11.2.Y, .int .i64 v11.2.Z, .int .i64 v11.2.E, .int .i64 v11.2.F, .int .i64 v11.2.S] v11.1 1 = some (.int .i64 (if v11.1 = 2 then v11.2.X else if v11.1 = 3 then v11.2.Y else if v11.1 = 4 then v11.2.Z else if v11.1 = 5 then v11.2.E else if v11.1 = 6 then v11.2.F else v11.2.S)) := by
        have q := h29
        simp only [Bool.or_eq_true, beq_iff_eq] at q
        rcases q with (((((q | q) | q) | q) | q) | q) <;> (rw [q]; rfl)
      cases h15 : t_gcode_span v11.2.Code s1 with
      | none => (rw [h15] at h; cases h)
      | some v16 =>
       simp only [h15] at h
       have f14 := t_gcode_span_ok h15
       by_cases h17 : ilt s1 0 = true
       · rw [if_pos h17] at h; cases h
       · rw [if_neg h17] at h
         rw [Bool.not_eq_true] at h17
         by_cases c18 : (ieq (iand .i64 (ishr .i64 v11.2.Has s1) 1) 0) = true
         · rw [if_pos c18] at h
           by_cases c19 : (bor (ilt (if v11.1 = 2 then v11.2.X else if v11.1 = 3 then v11.2.Y else if v11.1 = 4 then v11.2.Z else if v11.1 = 5 then v11.2.E else if v11.1 = 6 then v11.2.F else v11.2.S) 0) (igt (if v11.1 = 2 then v11.2.X else if v11.1 = 3 then v11.2.Y else if v11.1 = 4 then v11.2.Z else if v11.1 = 5 then v11.2.E else if v11.1 = 6 then v11.2.F else v11.2.S) 0)) = true
           · rw [if_pos c19] at h
             cases h
             show LK env [] 0 [1, 35] c125_L0 (some (t_gcode_Valid_L0_st  _)) = some (t_gcode_Valid_L0_out  _)
             simp only [t_gcode_Valid_L0_st, t_gcode_Valid_L0_out]
             rw [LK_step]
             rcases tof (ilt (if v11.1 = 2 then v11.2.X else if v11.1 = 3 then v11.2.Y else if v11.1 = 4 then v11.2.Z else if v11.1 = 5 then v11.2.E else if v11.1 = 6 then v11.2.F else v11.2.S) 0) with a20 | a20
             · try simp only [c9, c18, a20] at f12
               simp (maxSteps := 4000000) [c9, c18, a20, f12, f13, f14, h17]
             · rcases tof (igt (if v11.1 = 2 then v11.2.X else if v11.1 = 3 then v11.2.Y else if v11.1 = 4 then v11.2.Z else if v11.1 = 5 then v11.2.E else if v11.1 = 6 then v11.2.F else v11.2.S) 0) with a21 | a21
               · try simp only [c9, c18, a20, a21] at f12
                 simp (maxSteps := 4000000) [c9, c18, a20, a21, f12, f13, f14, h17]
               · simp [c9, c18, a20, a21] at c19
           · rw [if_neg c19] at h
             rw [Bool.not_eq_true] at c19
             cases h
             show LK env [] 0 [1, 35] c125_L0 (some (t_gcode_Valid_L0_st  _)) = LK env [] 0 [1, 35] c125_L0 (some (t_gcode_Valid_L0_st  _))
             simp only [t_gcode_Valid_L0_st]
             rw [LK_step]
             rcases tof (ilt (if v11.1 = 2 then v11.2.X else if v11.1 = 3 then v11.2.Y else if v11.1 = 4 then v11.2.Z else if v11.1 = 5 then v11.2.E else if v11.1 = 6 then v11.2.F else v11.2.S) 0) with a22 | a22
             · simp [c9, c18, a22] at c19
             · rcases tof (igt (if v11.1 = 2 then v11.2.X else if v11.1 = 3 then v11.2.Y else if v11.1 = 4 then v11.2.Z else if v11.1 = 5 then v11.2.E else if v11.1 = 6 then v11.2.F else v11.2.S) 0) with a23 | a23
               · simp [c9, c18, a22, a23] at c19
               · try simp only [c9, c18, a22, a23] at f12
                 simp (maxSteps := 4000000) [c9, c18, a22, a23, f12, f13, f14, h17]
         · rw [if_neg c18] at h
           rw [Bool.not_eq_true] at c18
           by_cases c24 : (bor (ilt (if v11.1 = 2 then v11.2.X else if v11.1 = 3 then v11.2.Y else if v11.1 = 4 then v11.2.Z else if v11.1 = 5 then v11.2.E else if v11.1 = 6 then v11.2.F else v11.2.S) v16.1) (igt (if v11.1 = 2 then v11.2.X else if v11.1 = 3 then v11.2.Y else if v11.1 = 4 then v11.2.Z else if v11.1 = 5 then v11.2.E else if v11.1 = 6 then v11.2.F else v11.2.S) v16.2)) = true
           · rw [if_pos c24] at h
             cases h
             show LK env [] 0 [1, 35] c125_L0 (some (t_gcode_Valid_L0_st  _)) = some (t_gcode_Valid_L0_out  _)
             simp only [t_gcode_Valid_L0_st, t_gcode_Valid_L0_out]
             rw [LK_step]
             rcases tof (ilt (if v11.1 = 2 then v11.2.X else if v11.1 = 3 then v11.2.Y else if v11.1 = 4 then v11.2.Z else if v11.1 = 5 then v11.2.E else if v11.1 = 6 then v11.2.F else v11.2.S) v16.1) with a25 | a25
             · try simp only [c9, c18, a25] at f12
               simp (maxSteps := 4000000) [c9, c18, a25, f12, f13, f14, h17]
             · rcases tof (igt (if v11.1 = 2 then v11.2.X else if v11.1 = 3 then v11.2.Y else if v11.1 = 4 then v11.2.Z else if v11.1 = 5 then v11.2.E else if v11.1 = 6 then v11.2.F else v11.2.S) v16.2) with a26 | a26
               · try simp only [c9, c18, a25, a26] at f12
                 simp (maxSteps := 4000000) [c9, c18, a25, a26, f12, f13, f14, h17]
               · simp [c9, c18, a25, a26] at c24
           · rw [if_neg c24] at h
             rw [Bool.not_eq_true] at c24
             cases h
             show LK env [] 0 [1, 35] c125_L0 (some (t_gcode_Valid_L0_st  _)) = LK env [] 0 [1, 35] c125_L0 (some (t_gcode_Valid_L0_st  _))
             simp only [t_gcode_Valid_L0_st]
             rw [LK_step]
             rcases tof (ilt (if v11.1 = 2 then v11.2.X else if v11.1 = 3 then v11.2.Y else if v11.1 = 4 then v11.2.Z else if v11.1 = 5 then v11.2.E else if v11.1 = 6 then v11.2.F else v11.2.S) v16.1) with a27 | a27
             · simp [c9, c18, a27] at c24
             · rcases tof (igt (if v11.1 = 2 then v11.2.X else if v11.1 = 3 then v11.2.Y else if v11.1 = 4 then v11.2.Z else if v11.1 = 5 then v11.2.E else if v11.1 = 6 then v11.2.F else v11.2.S) v16.2) with a28 | a28
               · simp [c9, c18, a27, a28] at c24
               · try simp only [c9, c18, a27, a28] at f12
                 simp (maxSteps := 4000000) [c9, c18, a27, a28, f12, f13, f14, h17]
    · rw [if_neg h29] at h; cases h
 · rw [if_neg c9] at h
   rw [Bool.not_eq_true] at c9
   cases h
   show LK env [] 0 [1, 35] c125_L0 (some (t_gcode_Valid_L0_st  _)) = some (t_gcode_Valid_L0_out  _)
   simp only [t_gcode_Valid_L0_st, t_gcode_Valid_L0_out]
   rw [LK_step]
   simp (maxSteps := 4000000) [c9]) bigN s r h
def t_gcode_Valid (p0 : api_Cmd) : Option Bool := (match t_gcode_words p0.Code with
 | none => none
 | some v3 => (if (bor (bor (bnot v3.2.2) (ine (iandn .i64 p0.Has v3.1) 0)) (band v3.2.1 (ine p0.Has v3.1))) = true then some false
 else (match loopT (t_gcode_Valid_L0) bigN (p0, 0) with
 | none => none
 | some v19 => (match v19 with
 | .inl v19x => some v19x
 | .inr v19x => some true))))
theorem t_gcode_Valid_ok {p0 : api_Cmd} {r : Bool} (h : t_gcode_Valid p0 = some r) : FC env 125 [.agg [.int .i64 p0.Code, .int .i64 p0.Has, .int .i64 p0.X, .int .i64 p0.Y, .int .i64 p0.Z, .int .i64 p0.E, .int .i64 p0.F, .int .i64 p0.S]] none = some (.bool r, fun _ => none) := by
 unfold t_gcode_Valid at h
 cases h2 : t_gcode_words p0.Code with
 | none => (rw [h2] at h; cases h)
 | some v3 =>
  simp only [h2] at h
  have f1 := t_gcode_words_ok h2
  by_cases c4 : (bor (bor (bnot v3.2.2) (ine (iandn .i64 p0.Has v3.1) 0)) (band v3.2.1 (ine p0.Has v3.1))) = true
  · rw [if_pos c4] at h
    cases h
    refine FC_pure (lf := lf125) rfl rfl rfl ?_
    simp only [lf125, lc125]
    rcases tof v3.2.2 with a5 | a5
    · rcases tof (ine (iandn .i64 p0.Has v3.1) 0) with a6 | a6
      · simp (maxSteps := 4000000) [a5, a6, f1]
      · rcases tof v3.2.1 with a7 | a7
        · rcases tof (ine p0.Has v3.1) with a8 | a8
          · simp (maxSteps := 4000000) [a5, a6, a7, a8, f1]
          · simp [a5, a6, a7, a8] at c4
        · simp [a5, a6, a7] at c4
    · simp (maxSteps := 4000000) [a5, f1]
  · rw [if_neg c4] at h
    rw [Bool.not_eq_true] at c4
    cases h30 : loopT (t_gcode_Valid_L0) bigN (p0, 0) with
    | none => (rw [h30] at h; cases h)
    | some v31 =>
     simp only [h30] at h
     have f32 := t_gcode_Valid_L0_ok h30
     cases v31 with
     | inl v31x =>
      try simp only at h
      simp only [t_gcode_Valid_L0_st, t_gcode_Valid_L0_out, fset_len] at f32
      try simp only [fcase_nil, fcase_lst, fcase_fsnoc, fcase_fapp, fcase_fset, fcase_frep, fcase_flit, fcase_flst] at f32
      cases h
      refine FC_pure (lf := lf125) rfl rfl rfl ?_
      simp only [lf125, lc125]
      rcases tof v3.2.2 with a33 | a33
      · rcases tof (ine (iandn .i64 p0.Has v3.1) 0) with a34 | a34
        · simp [a33, a34] at c4
        · rcases tof v3.2.1 with a35 | a35
          · rcases tof (ine p0.Has v3.1) with a36 | a36
            · simp [a33, a34, a35, a36] at c4
            · try simp only [a33, a34, a35, a36] at f32
              simp (maxSteps := 4000000) [a33, a34, a35, a36, f1, f32]
          · try simp only [a33, a34, a35] at f32
            simp (maxSteps := 4000000) [a33, a34, a35, f1, f32]
      · simp [a33] at c4
     | inr v31x =>
      try simp only at h
      simp only [t_gcode_Valid_L0_st, t_gcode_Valid_L0_out, fset_len] at f32
      try simp only [fcase_nil, fcase_lst, fcase_fsnoc, fcase_fapp, fcase_fset, fcase_frep, fcase_flit, fcase_flst] at f32
      cases h
      refine FC_pure (lf := lf125) rfl rfl rfl ?_
      simp only [lf125, lc125]
      rcases tof v3.2.2 with a37 | a37
      · rcases tof (ine (iandn .i64 p0.Has v3.1) 0) with a38 | a38
        · simp [a37, a38] at c4
        · rcases tof v3.2.1 with a39 | a39
          · rcases tof (ine p0.Has v3.1) with a40 | a40
            · simp [a37, a38, a39, a40] at c4
            · try simp only [a37, a38, a39, a40] at f32
              simp (maxSteps := 4000000) [a37, a38, a39, a40, f1, f32]
          · try simp only [a37, a38, a39] at f32
            simp (maxSteps := 4000000) [a37, a38, a39, f1, f32]
      · simp [a37] at c4

/-! emit.emitter).add -/
attribute [simp] c117_0 c117_1 c117_2 c117_3 c117_4
def t_emit_emitter_add (p0 : emit_emitter) (p1 : api_Cmd) : Option emit_emitter := (if (ine p0.code 0) = true then some (⟨p0.settings, p0.amount, p0.cells, p0.nozzle, p0.speed, p0.has, p0.out, p0.code⟩ : emit_emitter)
 else (match t_gcode_Valid p1 with
 | none => none
 | some v4 => (if (bnot v4) = true then some (⟨p0.settings, p0.amount, p0.cells, p0.nozzle, p0.speed, p0.has, p0.out, 8⟩ : emit_emitter)
 else (if fits 64 ((flen p0.out) + 1) = true then some (⟨p0.settings, p0.amount, p0.cells, p0.nozzle, p0.speed, p0.has, (fsnoc p0.out p1), p0.code⟩ : emit_emitter) else none))))
theorem t_emit_emitter_add_okN {p0 : emit_emitter} {p1 : api_Cmd} (e06 : p0.out = FS.nil) {r : emit_emitter} (h : t_emit_emitter_add p0 p1 = some r) : FC env 117 [.ptr 0 0 0, .agg [.int .i64 p1.Code, .int .i64 p1.Has, .int .i64 p1.X, .int .i64 p1.Y, .int .i64 p1.Z, .int .i64 p1.E, .int .i64 p1.F, .int .i64 p1.S]] (some (hl [(0, .box 0 [.int .i64 p0.settings.Pitch, .int .i64 p0.settings.Height, .int .i64 p0.settings.Walls, .int .i64 p0.settings.Top, .int .i64 p0.settings.Bottom, .int .i64 p0.settings.Pattern, .int .i64 p0.settings.Spacing, .bool p0.settings.Support, .int .i64 p0.settings.Reach, .int .i64 p0.settings.Gap, .int .i64 p0.settings.Brim, .int .i64 p0.settings.Skirt, .int .i64 p0.settings.Drop, .int .i64 p0.settings.Feed, .int .i64 p0.settings.Travel, .int .i64 p0.settings.Retract, .int .i64 p0.settings.MinTime, .int .i64 p0.settings.MinFeed, .int .i64 p0.settings.Nozzle, .int .i64 p0.settings.Bed, .int .i64 p0.amount, .int .i64 p0.cells, .int .i64 p0.nozzle.X, .int .i64 p0.nozzle.Y, .int .i64 p0.speed, .bool p0.has, .nils, .int .i64 p0.code])], 0)) = some (.tup [], (fcase r.out (hl [(0, .box 0 [.int .i64 r.settings.Pitch, .int .i64 r.settings.Height, .int .i64 r.settings.Walls, .int .i64 r.settings.Top, .int .i64 r.settings.Bottom, .int .i64 r.settings.Pattern, .int .i64 r.settings.Spacing, .bool r.settings.Support, .int .i64 r.settings.Reach, .int .i64 r.settings.Gap, .int .i64 r.settings.Brim, .int .i64 r.settings.Skirt, .int .i64 r.settings.Drop, .int .i64 r.settings.Feed, .int .i64 r.settings.Travel, .int .i64 r.settings.Retract, .int .i64 r.settings.MinTime, .int .i64 r.settings.MinFeed, .int .i64 r.settings.Nozzle, .int .i64 r.settings.Bed, .int .i64 r.amount, .int .i64 r.cells, .int .i64 r.nozzle.X, .int .i64 r.nozzle.Y, .int .i64 r.speed, .bool r.has, .nils, .int .i64 r.code])])
  (fun l0 => hl [(0, .box 0 [.int .i64 r.settings.Pitch, .int .i64 r.settings.Height, .int .i64 r.settings.Walls, .int .i64 r.settings.Top, .int .i64 r.settings.Bottom, .int .i64 r.settings.Pattern, .int .i64 r.settings.Spacing, .bool r.settings.Support, .int .i64 r.settings.Reach, .int .i64 r.settings.Gap, .int .i64 r.settings.Brim, .int .i64 r.settings.Skirt, .int .i64 r.settings.Drop, .int .i64 r.settings.Feed, .int .i64 r.settings.Travel, .int .i64 r.settings.Retract, .int .i64 r.settings.MinTime, .int .i64 r.settings.MinFeed, .int .i64 r.settings.Nozzle, .int .i64 r.settings.Bed, .int .i64 r.amount, .int .i64 r.cells, .int .i64 r.nozzle.X, .int .i64 r.nozzle.Y, .int .i64 r.speed, .bool r.has, .arr 1000026 0 0 l0.l.length, .int .i64 r.code]), (1000026, .arr 0 8 55 (cellsE e_api_Cmd l0.l) false)]))) := by
 unfold t_emit_emitter_add at h
 simp only [e06, flen_nil] at h
 by_cases c1 : (ine p0.code 0) = true
 · rw [if_pos c1] at h
   cases h
   refine FC_byref (lf := lf117) rfl rfl rfl ?_
   simp only [lf117, lc117]
   simp (maxSteps := 4000000) [c1, e06]
 · rw [if_neg c1] at h
   rw [Bool.not_eq_true] at c1
   cases h3 : t_gcode_Valid p1 with
   | none => (rw [h3] at h; cases h)
   | some v4 =>
    simp only [h3] at h
    have f2 := t_gcode_Valid_ok h3
    by_cases c5 : (bnot v4) = true
    · rw [if_pos c5] at h
      cases h
      refine FC_byref (lf := lf117) rfl rfl rfl ?_
      simp only [lf117, lc117]
      rcases tof v4 with a6 | a6
      · simp [c1, a6] at c5
      · simp (maxSteps := 4000000) [c1, a6, e06, f2]
    · rw [if_neg c5] at h
      rw [Bool.not_eq_true] at c5
      by_cases h8 : fits 64 (0 + 1) = true
      · rw [if_pos h8] at h
        have f7 := fun H g0 hg y => @app_nil _ _ e_api_Cmd _ p1 64 h8 (by decide) H g0 55 y hg
        simp only [e_api_Cmd] at f7
        cases h
        refine FC_byref (lf := lf117) rfl rfl rfl ?_
        simp only [lf117, lc117]
        rcases tof v4 with a9 | a9
        · simp (maxSteps := 4000000) [c1, a9, e06, f2, f7]
        · simp [c1, a9] at c5
      · rw [if_neg h8] at h; cases h
theorem t_emit_emitter_add_okO {p0 : emit_emitter} {p1 : api_Cmd} {le06 : List api_Cmd} (e06 : p0.out = FS.lst le06) {r : emit_emitter} (h : t_emit_emitter_add p0 p1 = some r) : FC env 117 [.ptr 0 0 0, .agg [.int .i64 p1.Code, .int .i64 p1.Has, .int .i64 p1.X, .int .i64 p1.Y, .int .i64 p1.Z, .int .i64 p1.E, .int .i64 p1.F, .int .i64 p1.S]] (some (hl [(0, .box 0 [.int .i64 p0.settings.Pitch, .int .i64 p0.settings.Height, .int .i64 p0.settings.Walls, .int .i64 p0.settings.Top, .int .i64 p0.settings.Bottom, .int .i64 p0.settings.Pattern, .int .i64 p0.settings.Spacing, .bool p0.settings.Support, .int .i64 p0.settings.Reach, .int .i64 p0.settings.Gap, .int .i64 p0.settings.Brim, .int .i64 p0.settings.Skirt, .int .i64 p0.settings.Drop, .int .i64 p0.settings.Feed, .int .i64 p0.settings.Travel, .int .i64 p0.settings.Retract, .int .i64 p0.settings.MinTime, .int .i64 p0.settings.MinFeed, .int .i64 p0.settings.Nozzle, .int .i64 p0.settings.Bed, .int .i64 p0.amount, .int .i64 p0.cells, .int .i64 p0.nozzle.X, .int .i64 p0.nozzle.Y, .int .i64 p0.speed, .bool p0.has, .arr 1000026 0 0 p0.out.l.length, .int .i64 p0.code]), (1000026, .arr 0 8 55 (cellsE e_api_Cmd p0.out.l) false)], 0)) = some (.tup [], hl [(0, .box 0 [.int .i64 r.settings.Pitch, .int .i64 r.settings.Height, .int .i64 r.settings.Walls, .int .i64 r.settings.Top, .int .i64 r.settings.Bottom, .int .i64 r.settings.Pattern, .int .i64 r.settings.Spacing, .bool r.settings.Support, .int .i64 r.settings.Reach, .int .i64 r.settings.Gap, .int .i64 r.settings.Brim, .int .i64 r.settings.Skirt, .int .i64 r.settings.Drop, .int .i64 r.settings.Feed, .int .i64 r.settings.Travel, .int .i64 r.settings.Retract, .int .i64 r.settings.MinTime, .int .i64 r.settings.MinFeed, .int .i64 r.settings.Nozzle, .int .i64 r.settings.Bed, .int .i64 r.amount, .int .i64 r.cells, .int .i64 r.nozzle.X, .int .i64 r.nozzle.Y, .int .i64 r.speed, .bool r.has, .arr 1000026 0 0 r.out.l.length, .int .i64 r.code]), (1000026, .arr 0 8 55 (cellsE e_api_Cmd r.out.l) false)]) ∧ ∃ l, r.out = FS.lst l := by
 unfold t_emit_emitter_add at h
 simp only [e06, flen_nil] at h
 by_cases c1 : (ine p0.code 0) = true
 · rw [if_pos c1] at h
   cases h
   refine ⟨?_, by first | exact ⟨_, rfl⟩ | exact ⟨_, by assumption⟩⟩
   refine FC_byref (lf := lf117) rfl rfl rfl ?_
   simp only [lf117, lc117]
   simp (maxSteps := 4000000) [c1, e06]
 · rw [if_neg c1] at h
   rw [Bool.not_eq_true] at c1
   cases h3 : t_gcode_Valid p1 with
   | none => (rw [h3] at h; cases h)
   | some v4 =>
    simp only [h3] at h
    have f2 := t_gcode_Valid_ok h3
    by_cases c5 : (bnot v4) = true
    · rw [if_pos c5] at h
      cases h
      refine ⟨?_, by first | exact ⟨_, rfl⟩ | exact ⟨_, by assumption⟩⟩
      refine FC_byref (lf := lf117) rfl rfl rfl ?_
      simp only [lf117, lc117]
      rcases tof v4 with a6 | a6
      · simp [c1, a6] at c5
      · simp (maxSteps := 4000000) [c1, a6, e06, f2]
    · rw [if_neg c5] at h
      rw [Bool.not_eq_true] at c5
      by_cases h8 : fits 64 ((flen (FS.lst le06)) + 1) = true
      · rw [if_pos h8] at h
        have f7 := fun g0 H y => @app_row1 _ _ e_api_Cmd _ (FS.lst le06) p1 64 h8 (by decide) g0 H 1000026 0 55 y
        simp only [e_api_Cmd] at f7
        cases h
        refine ⟨?_, by first | exact ⟨_, rfl⟩ | exact ⟨_, by assumption⟩⟩
        refine FC_byref (lf := lf117) rfl rfl rfl ?_
        simp only [lf117, lc117]
        rcases tof v4 with a9 | a9
        · simp (maxSteps := 4000000) [c1, a9, e06, f2, f7]
        · simp [c1, a9] at c5
      · rw [if_neg h8] at h; cases h

/-! emit.emitter).fan -/
attribute [simp] c104_0 c104_1 c104_2 c104_3
def t_emit_emitter_fan (p0 : emit_emitter) (p1 : api_Op) : Option emit_emitter := (if (ieq p1.Speed 0) = true then (match t_emit_emitter_add (⟨p0.settings, p0.amount, p0.cells, p0.nozzle, p0.speed, p0.has, p0.out, p0.code⟩ : emit_emitter) (⟨1107, 0, 0, 0, 0, 0, 0, 0⟩ : api_Cmd) with
 | none => none
 | some v3 => some (⟨v3.settings, v3.amount, v3.cells, v3.nozzle, v3.speed, v3.has, v3.out, v3.code⟩ : emit_emitter))
 else (match t_emit_emitter_add (⟨p0.settings, p0.amount, p0.cells, p0.nozzle, p0.speed, p0.has, p0.out, p0.code⟩ : emit_emitter) (⟨1106, 32, 0, 0, 0, 0, 0, p1.Speed⟩ : api_Cmd) with
 | none => none
 | some v6 => some (⟨v6.settings, v6.amount, v6.cells, v6.nozzle, v6.speed, v6.has, v6.out, v6.code⟩ : emit_emitter)))
theorem t_emit_emitter_fan_okN {p0 : emit_emitter} {p1 : api_Op} (e06 : p0.out = FS.nil) {r : emit_emitter} (h : t_emit_emitter_fan p0 p1 = some r) : FC env 104 [.ptr 0 0 0, .agg [.int .i64 p1.Kind, .int .i64 p1.Role, .int .i64 p1.Layer, .int .i64 p1.Z, .int .i64 p1.Speed, encF e_api_Cell p1.Cells]] (some (hl [(0, .box 0 [.int .i64 p0.settings.Pitch, .int .i64 p0.settings.Height, .int .i64 p0.settings.Walls, .int .i64 p0.settings.Top, .int .i64 p0.settings.Bottom, .int .i64 p0.settings.Pattern, .int .i64 p0.settings.Spacing, .bool p0.settings.Support, .int .i64 p0.settings.Reach, .int .i64 p0.settings.Gap, .int .i64 p0.settings.Brim, .int .i64 p0.settings.Skirt, .int .i64 p0.settings.Drop, .int .i64 p0.settings.Feed, .int .i64 p0.settings.Travel, .int .i64 p0.settings.Retract, .int .i64 p0.settings.MinTime, .int .i64 p0.settings.MinFeed, .int .i64 p0.settings.Nozzle, .int .i64 p0.settings.Bed, .int .i64 p0.amount, .int .i64 p0.cells, .int .i64 p0.nozzle.X, .int .i64 p0.nozzle.Y, .int .i64 p0.speed, .bool p0.has, .nils, .int .i64 p0.code])], 0)) = some (.tup [], (fcase r.out (hl [(0, .box 0 [.int .i64 r.settings.Pitch, .int .i64 r.settings.Height, .int .i64 r.settings.Walls, .int .i64 r.settings.Top, .int .i64 r.settings.Bottom, .int .i64 r.settings.Pattern, .int .i64 r.settings.Spacing, .bool r.settings.Support, .int .i64 r.settings.Reach, .int .i64 r.settings.Gap, .int .i64 r.settings.Brim, .int .i64 r.settings.Skirt, .int .i64 r.settings.Drop, .int .i64 r.settings.Feed, .int .i64 r.settings.Travel, .int .i64 r.settings.Retract, .int .i64 r.settings.MinTime, .int .i64 r.settings.MinFeed, .int .i64 r.settings.Nozzle, .int .i64 r.settings.Bed, .int .i64 r.amount, .int .i64 r.cells, .int .i64 r.nozzle.X, .int .i64 r.nozzle.Y, .int .i64 r.speed, .bool r.has, .nils, .int .i64 r.code])])
  (fun l0 => hl [(0, .box 0 [.int .i64 r.settings.Pitch, .int .i64 r.settings.Height, .int .i64 r.settings.Walls, .int .i64 r.settings.Top, .int .i64 r.settings.Bottom, .int .i64 r.settings.Pattern, .int .i64 r.settings.Spacing, .bool r.settings.Support, .int .i64 r.settings.Reach, .int .i64 r.settings.Gap, .int .i64 r.settings.Brim, .int .i64 r.settings.Skirt, .int .i64 r.settings.Drop, .int .i64 r.settings.Feed, .int .i64 r.settings.Travel, .int .i64 r.settings.Retract, .int .i64 r.settings.MinTime, .int .i64 r.settings.MinFeed, .int .i64 r.settings.Nozzle, .int .i64 r.settings.Bed, .int .i64 r.amount, .int .i64 r.cells, .int .i64 r.nozzle.X, .int .i64 r.nozzle.Y, .int .i64 r.speed, .bool r.has, .arr 1000026 0 0 l0.l.length, .int .i64 r.code]), (1000026, .arr 0 8 55 (cellsE e_api_Cmd l0.l) false)]))) := by
 unfold t_emit_emitter_fan at h
 simp only [e06, flen_nil] at h
 by_cases c1 : (ieq p1.Speed 0) = true
 · rw [if_pos c1] at h
   cases h2 : t_emit_emitter_add (⟨p0.settings, p0.amount, p0.cells, p0.nozzle, p0.speed, p0.has, (FS.nil : (FS api_Cmd)), p0.code⟩ : emit_emitter) (⟨1107, 0, 0, 0, 0, 0, 0, 0⟩ : api_Cmd) with
   | none => (rw [h2] at h; cases h)
   | some v3 =>
    simp only [h2] at h
    have f4 := t_emit_emitter_add_okN rfl h2
    try simp only [fset_len, encF_nil, fcase_nil, fcase_lst, fcase_fsnoc, fcase_fapp, fcase_fset, fcase_frep, fcase_flit, fcase_flst] at f4
    cases e6 : v3.out with
    | nil =>
     try simp only [e6, flen_nil] at h
     simp only [e6, flen_nil, fcase_nil, fcase_lst] at f4
     cases h
     refine FC_byref (lf := lf104) rfl rfl rfl ?_
     simp only [lf104, lc104]
     try simp only [c1] at f4
     simp (maxSteps := 4000000) [c1, e06, f4, e6]
    | lst l5 =>
     try simp only [e6] at h
     simp only [e6, flen_nil, fcase_nil, fcase_lst] at f4
     cases h
     refine FC_byref (lf := lf104) rfl rfl rfl ?_
     simp only [lf104, lc104]
     try simp only [c1] at f4
     simp (maxSteps := 4000000) [c1, e06, f4, e6]
 · rw [if_neg c1] at h
   rw [Bool.not_eq_true] at c1
   cases h7 : t_emit_emitter_add (⟨p0.settings, p0.amount, p0.cells, p0.nozzle, p0.speed, p0.has, (FS.nil : (FS api_Cmd)), p0.code⟩ : emit_emitter) (⟨1106, 32, 0, 0, 0, 0, 0, p1.Speed⟩ : api_Cmd) with
   | none => (rw [h7] at h; cases h)
   | some v8 =>
    simp only [h7] at h
    have f9 := t_emit_emitter_add_okN rfl h7
    try simp only [fset_len, encF_nil, fcase_nil, fcase_lst, fcase_fsnoc, fcase_fapp, fcase_fset, fcase_frep, fcase_flit, fcase_flst] at f9
    cases e11 : v8.out with
    | nil =>
     try simp only [e11, flen_nil] at h
     simp only [e11, flen_nil, fcase_nil, fcase_lst] at f9
     cases h
     refine FC_byref (lf := lf104) rfl rfl rfl ?_
     simp only [lf104, lc104]
     try simp only [c1] at f9
     simp (maxSteps := 4000000) [c1, e06, f9, e11]
    | lst l10 =>
     try simp only [e11] at h
     simp only [e11, flen_nil, fcase_nil, fcase_lst] at f9
     cases h
     refine FC_byref (lf := lf104) rfl rfl rfl ?_
     simp only [lf104, lc104]
     try simp only [c1] at f9
     simp (maxSteps := 4000000) [c1, e06, f9, e11]
theorem t_emit_emitter_fan_okO {p0 : emit_emitter} {p1 : api_Op} {le06 : List api_Cmd} (e06 : p0.out = FS.lst le06) {r : emit_emitter} (h : t_emit_emitter_fan p0 p1 = some r) : FC env 104 [.ptr 0 0 0, .agg [.int .i64 p1.Kind, .int .i64 p1.Role, .int .i64 p1.Layer, .int .i64 p1.Z, .int .i64 p1.Speed, encF e_api_Cell p1.Cells]] (some (hl [(0, .box 0 [.int .i64 p0.settings.Pitch, .int .i64 p0.settings.Height, .int .i64 p0.settings.Walls, .int .i64 p0.settings.Top, .int .i64 p0.settings.Bottom, .int .i64 p0.settings.Pattern, .int .i64 p0.settings.Spacing, .bool p0.settings.Support, .int .i64 p0.settings.Reach, .int .i64 p0.settings.Gap, .int .i64 p0.settings.Brim, .int .i64 p0.settings.Skirt, .int .i64 p0.settings.Drop, .int .i64 p0.settings.Feed, .int .i64 p0.settings.Travel, .int .i64 p0.settings.Retract, .int .i64 p0.settings.MinTime, .int .i64 p0.settings.MinFeed, .int .i64 p0.settings.Nozzle, .int .i64 p0.settings.Bed, .int .i64 p0.amount, .int .i64 p0.cells, .int .i64 p0.nozzle.X, .int .i64 p0.nozzle.Y, .int .i64 p0.speed, .bool p0.has, .arr 1000026 0 0 p0.out.l.length, .int .i64 p0.code]), (1000026, .arr 0 8 55 (cellsE e_api_Cmd p0.out.l) false)], 0)) = some (.tup [], hl [(0, .box 0 [.int .i64 r.settings.Pitch, .int .i64 r.settings.Height, .int .i64 r.settings.Walls, .int .i64 r.settings.Top, .int .i64 r.settings.Bottom, .int .i64 r.settings.Pattern, .int .i64 r.settings.Spacing, .bool r.settings.Support, .int .i64 r.settings.Reach, .int .i64 r.settings.Gap, .int .i64 r.settings.Brim, .int .i64 r.settings.Skirt, .int .i64 r.settings.Drop, .int .i64 r.settings.Feed, .int .i64 r.settings.Travel, .int .i64 r.settings.Retract, .int .i64 r.settings.MinTime, .int .i64 r.settings.MinFeed, .int .i64 r.settings.Nozzle, .int .i64 r.settings.Bed, .int .i64 r.amount, .int .i64 r.cells, .int .i64 r.nozzle.X, .int .i64 r.nozzle.Y, .int .i64 r.speed, .bool r.has, .arr 1000026 0 0 r.out.l.length, .int .i64 r.code]), (1000026, .arr 0 8 55 (cellsE e_api_Cmd r.out.l) false)]) ∧ ∃ l, r.out = FS.lst l := by
 unfold t_emit_emitter_fan at h
 simp only [e06, flen_nil] at h
 by_cases c1 : (ieq p1.Speed 0) = true
 · rw [if_pos c1] at h
   cases h2 : t_emit_emitter_add (⟨p0.settings, p0.amount, p0.cells, p0.nozzle, p0.speed, p0.has, (FS.lst le06), p0.code⟩ : emit_emitter) (⟨1107, 0, 0, 0, 0, 0, 0, 0⟩ : api_Cmd) with
   | none => (rw [h2] at h; cases h)
   | some v3 =>
    simp only [h2] at h
    obtain ⟨f4, ⟨l6, e5⟩⟩ := t_emit_emitter_add_okO rfl h2
    simp only [e5] at f4
    try simp only [e5] at h
    try simp only [fset_len, encF_nil, fcase_nil, fcase_lst, fcase_fsnoc, fcase_fapp, fcase_fset, fcase_frep, fcase_flit, fcase_flst] at f4
    try simp only [fcase_nil, fcase_lst, fcase_fsnoc, fcase_fapp, fcase_fset, fcase_frep, fcase_flit, fcase_flst] at f4
    cases h
    refine ⟨?_, by first | exact ⟨_, rfl⟩ | exact ⟨_, by assumption⟩⟩
    refine FC_byref (lf := lf104) rfl rfl rfl ?_
    simp only [lf104, lc104]
    try simp only [c1] at f4
    simp (maxSteps := 4000000) [c1, e06, e5, f4]
 · rw [if_neg c1] at h
   rw [Bool.not_eq_true] at c1
   cases h7 : t_emit_emitter_add (⟨p0.settings, p0.amount, p0.cells, p0.nozzle, p0.speed, p0.has, (FS.lst le06), p0.code⟩ : emit_emitter) (⟨1106, 32, 0, 0, 0, 0, 0, p1.Speed⟩ : api_Cmd) with
   | none => (rw [h7] at h; cases h)
   | some v8 =>
    simp only [h7] at h
    obtain ⟨f9, ⟨l11, e10⟩⟩ := t_emit_emitter_add_okO rfl h7
    simp only [e10] at f9
    try simp only [e10] at h
    try simp only [fset_len, encF_nil, fcase_nil, fcase_lst, fcase_fsnoc, fcase_fapp, fcase_fset, fcase_frep, fcase_flit, fcase_flst] at f9
    try simp only [fcase_nil, fcase_lst, fcase_fsnoc, fcase_fapp, fcase_fset, fcase_frep, fcase_flit, fcase_flst] at f9
    cases h
    refine ⟨?_, by first | exact ⟨_, rfl⟩ | exact ⟨_, by assumption⟩⟩
    refine FC_byref (lf := lf104) rfl rfl rfl ?_
    simp only [lf104, lc104]
    try simp only [c1] at f9
    simp (maxSteps := 4000000) [c1, e06, e10, f9]

/-! emit.emitter).feed -/
attribute [simp] c103_0 c103_1
def t_emit_emitter_feed (p0 : emit_emitter) (p1 : api_Op) : Option emit_emitter := (match t_emit_emitter_add (⟨p0.settings, p0.amount, p0.cells, p0.nozzle, p0.speed, p0.has, p0.out, p0.code⟩ : emit_emitter) (⟨1, 8, 0, 0, 0, p0.amount, 0, 0⟩ : api_Cmd) with
 | none => none
 | some v2 => some (⟨v2.settings, v2.amount, v2.cells, v2.nozzle, v2.speed, v2.has, v2.out, v2.code⟩ : emit_emitter))
theorem t_emit_emitter_feed_okN {p0 : emit_emitter} {p1 : api_Op} (e06 : p0.out = FS.nil) {r : emit_emitter} (h : t_emit_emitter_feed p0 p1 = some r) : FC env 103 [.ptr 0 0 0, .agg [.int .i64 p1.Kind, .int .i64 p1.Role, .int .i64 p1.Layer, .int .i64 p1.Z, .int .i64 p1.Speed, encF e_api_Cell p1.Cells]] (some (hl [(0, .box 0 [.int .i64 p0.settings.Pitch, .int .i64 p0.settings.Height, .int .i64 p0.settings.Walls, .int .i64 p0.settings.Top, .int .i64 p0.settings.Bottom, .int .i64 p0.settings.Pattern, .int .i64 p0.settings.Spacing, .bool p0.settings.Support, .int .i64 p0.settings.Reach, .int .i64 p0.settings.Gap, .int .i64 p0.settings.Brim, .int .i64 p0.settings.Skirt, .int .i64 p0.settings.Drop, .int .i64 p0.settings.Feed, .int .i64 p0.settings.Travel, .int .i64 p0.settings.Retract, .int .i64 p0.settings.MinTime, .int .i64 p0.settings.MinFeed, .int .i64 p0.settings.Nozzle, .int .i64 p0.settings.Bed, .int .i64 p0.amount, .int .i64 p0.cells, .int .i64 p0.nozzle.X, .int .i64 p0.nozzle.Y, .int .i64 p0.speed, .bool p0.has, .nils, .int .i64 p0.code])], 0)) = some (.tup [], (fcase r.out (hl [(0, .box 0 [.int .i64 r.settings.Pitch, .int .i64 r.settings.Height, .int .i64 r.settings.Walls, .int .i64 r.settings.Top, .int .i64 r.settings.Bottom, .int .i64 r.settings.Pattern, .int .i64 r.settings.Spacing, .bool r.settings.Support, .int .i64 r.settings.Reach, .int .i64 r.settings.Gap, .int .i64 r.settings.Brim, .int .i64 r.settings.Skirt, .int .i64 r.settings.Drop, .int .i64 r.settings.Feed, .int .i64 r.settings.Travel, .int .i64 r.settings.Retract, .int .i64 r.settings.MinTime, .int .i64 r.settings.MinFeed, .int .i64 r.settings.Nozzle, .int .i64 r.settings.Bed, .int .i64 r.amount, .int .i64 r.cells, .int .i64 r.nozzle.X, .int .i64 r.nozzle.Y, .int .i64 r.speed, .bool r.has, .nils, .int .i64 r.code])])
  (fun l0 => hl [(0, .box 0 [.int .i64 r.settings.Pitch, .int .i64 r.settings.Height, .int .i64 r.settings.Walls, .int .i64 r.settings.Top, .int .i64 r.settings.Bottom, .int .i64 r.settings.Pattern, .int .i64 r.settings.Spacing, .bool r.settings.Support, .int .i64 r.settings.Reach, .int .i64 r.settings.Gap, .int .i64 r.settings.Brim, .int .i64 r.settings.Skirt, .int .i64 r.settings.Drop, .int .i64 r.settings.Feed, .int .i64 r.settings.Travel, .int .i64 r.settings.Retract, .int .i64 r.settings.MinTime, .int .i64 r.settings.MinFeed, .int .i64 r.settings.Nozzle, .int .i64 r.settings.Bed, .int .i64 r.amount, .int .i64 r.cells, .int .i64 r.nozzle.X, .int .i64 r.nozzle.Y, .int .i64 r.speed, .bool r.has, .arr 1000026 0 0 l0.l.length, .int .i64 r.code]), (1000026, .arr 0 8 55 (cellsE e_api_Cmd l0.l) false)]))) := by
 unfold t_emit_emitter_feed at h
 simp only [e06, flen_nil] at h
 cases h1 : t_emit_emitter_add (⟨p0.settings, p0.amount, p0.cells, p0.nozzle, p0.speed, p0.has, (FS.nil : (FS api_Cmd)), p0.code⟩ : emit_emitter) (⟨1, 8, 0, 0, 0, p0.amount, 0, 0⟩ : api_Cmd) with
 | none => (rw [h1] at h; cases h)
 | some v2 =>
  simp only [h1] at h
  have f3 := t_emit_emitter_add_okN rfl h1
  try simp only [fset_len, encF_nil, fcase_nil, fcase_lst, fcase_fsnoc, fcase_fapp, fcase_fset, fcase_frep, fcase_flit, fcase_flst] at f3
  cases e5 : v2.out with
  | nil =>
   try simp only [e5, flen_nil] at h
   simp only [e5, flen_nil, fcase_nil, fcase_lst] at f3
   cases h
   refine FC_byref (lf := lf103) rfl rfl rfl ?_
   simp only [lf103, lc103]
   simp (maxSteps := 4000000) [e06, f3, e5]
  | lst l4 =>
   try simp only [e5] at h
   simp only [e5, flen_nil, fcase_nil, fcase_lst] at f3
   cases h
   refine FC_byref (lf := lf103) rfl rfl rfl ?_
   simp only [lf103, lc103]
   simp (maxSteps := 4000000) [e06, f3, e5]
theorem t_emit_emitter_feed_okO {p0 : emit_emitter} {p1 : api_Op} {le06 : List api_Cmd} (e06 : p0.out = FS.lst le06) {r : emit_emitter} (h : t_emit_emitter_feed p0 p1 = some r) : FC env 103 [.ptr 0 0 0, .agg [.int .i64 p1.Kind, .int .i64 p1.Role, .int .i64 p1.Layer, .int .i64 p1.Z, .int .i64 p1.Speed, encF e_api_Cell p1.Cells]] (some (hl [(0, .box 0 [.int .i64 p0.settings.Pitch, .int .i64 p0.settings.Height, .int .i64 p0.settings.Walls, .int .i64 p0.settings.Top, .int .i64 p0.settings.Bottom, .int .i64 p0.settings.Pattern, .int .i64 p0.settings.Spacing, .bool p0.settings.Support, .int .i64 p0.settings.Reach, .int .i64 p0.settings.Gap, .int .i64 p0.settings.Brim, .int .i64 p0.settings.Skirt, .int .i64 p0.settings.Drop, .int .i64 p0.settings.Feed, .int .i64 p0.settings.Travel, .int .i64 p0.settings.Retract, .int .i64 p0.settings.MinTime, .int .i64 p0.settings.MinFeed, .int .i64 p0.settings.Nozzle, .int .i64 p0.settings.Bed, .int .i64 p0.amount, .int .i64 p0.cells, .int .i64 p0.nozzle.X, .int .i64 p0.nozzle.Y, .int .i64 p0.speed, .bool p0.has, .arr 1000026 0 0 p0.out.l.length, .int .i64 p0.code]), (1000026, .arr 0 8 55 (cellsE e_api_Cmd p0.out.l) false)], 0)) = some (.tup [], hl [(0, .box 0 [.int .i64 r.settings.Pitch, .int .i64 r.settings.Height, .int .i64 r.settings.Walls, .int .i64 r.settings.Top, .int .i64 r.settings.Bottom, .int .i64 r.settings.Pattern, .int .i64 r.settings.Spacing, .bool r.settings.Support, .int .i64 r.settings.Reach, .int .i64 r.settings.Gap, .int .i64 r.settings.Brim, .int .i64 r.settings.Skirt, .int .i64 r.settings.Drop, .int .i64 r.settings.Feed, .int .i64 r.settings.Travel, .int .i64 r.settings.Retract, .int .i64 r.settings.MinTime, .int .i64 r.settings.MinFeed, .int .i64 r.settings.Nozzle, .int .i64 r.settings.Bed, .int .i64 r.amount, .int .i64 r.cells, .int .i64 r.nozzle.X, .int .i64 r.nozzle.Y, .int .i64 r.speed, .bool r.has, .arr 1000026 0 0 r.out.l.length, .int .i64 r.code]), (1000026, .arr 0 8 55 (cellsE e_api_Cmd r.out.l) false)]) ∧ ∃ l, r.out = FS.lst l := by
 unfold t_emit_emitter_feed at h
 simp only [e06, flen_nil] at h
 cases h1 : t_emit_emitter_add (⟨p0.settings, p0.amount, p0.cells, p0.nozzle, p0.speed, p0.has, (FS.lst le06), p0.code⟩ : emit_emitter) (⟨1, 8, 0, 0, 0, p0.amount, 0, 0⟩ : api_Cmd) with
 | none => (rw [h1] at h; cases h)
 | some v2 =>
  simp only [h1] at h
  obtain ⟨f3, ⟨l5, e4⟩⟩ := t_emit_emitter_add_okO rfl h1
  simp only [e4] at f3
  try simp only [e4] at h
  try simp only [fset_len, encF_nil, fcase_nil, fcase_lst, fcase_fsnoc, fcase_fapp, fcase_fset, fcase_frep, fcase_flit, fcase_flst] at f3
  try simp only [fcase_nil, fcase_lst, fcase_fsnoc, fcase_fapp, fcase_fset, fcase_frep, fcase_flit, fcase_flst] at f3
  cases h
  refine ⟨?_, by first | exact ⟨_, rfl⟩ | exact ⟨_, by assumption⟩⟩
  refine FC_byref (lf := lf103) rfl rfl rfl ?_
  simp only [lf103, lc103]
  simp (maxSteps := 4000000) [e06, e4, f3]

/-! emit.emitter).moves -/
attribute [simp] c119_0 c119_1 c119_2 c119_3 c119_4 c119_5 c119_6
def t_emit_emitter_moves (p0 : emit_emitter) (p1 : api_Op) : Option (Bool × emit_emitter) := (if (ieq (flen p1.Cells) 0) = true then some (false, (⟨p0.settings, p0.amount, p0.cells, p0.nozzle, p0.speed, p0.has, p0.out, p0.code⟩ : emit_emitter))
 else (if (bor (ilt p1.Speed 1) (igt p1.Speed 1048576)) = true then some (false, (⟨p0.settings, p0.amount, p0.cells, p0.nozzle, p0.speed, p0.has, p0.out, 8⟩ : emit_emitter))
 else some (true, (⟨p0.settings, p0.amount, p0.cells, p0.nozzle, p0.speed, p0.has, p0.out, p0.code⟩ : emit_emitter))))
theorem t_emit_emitter_moves_okN {p0 : emit_emitter} {p1 : api_Op} (e06 : p0.out = FS.nil) {r : (Bool × emit_emitter)} (h : t_emit_emitter_moves p0 p1 = some r) : FC env 119 [.ptr 0 0 0, .agg [.int .i64 p1.Kind, .int .i64 p1.Role, .int .i64 p1.Layer, .int .i64 p1.Z, .int .i64 p1.Speed, encF e_api_Cell p1.Cells]] (some (hl [(0, .box 0 [.int .i64 p0.settings.Pitch, .int .i64 p0.settings.Height, .int .i64 p0.settings.Walls, .int .i64 p0.settings.Top, .int .i64 p0.settings.Bottom, .int .i64 p0.settings.Pattern, .int .i64 p0.settings.Spacing, .bool p0.settings.Support, .int .i64 p0.settings.Reach, .int .i64 p0.settings.Gap, .int .i64 p0.settings.Brim, .int .i64 p0.settings.Skirt, .int .i64 p0.settings.Drop, .int .i64 p0.settings.Feed, .int .i64 p0.settings.Travel, .int .i64 p0.settings.Retract, .int .i64 p0.settings.MinTime, .int .i64 p0.settings.MinFeed, .int .i64 p0.settings.Nozzle, .int .i64 p0.settings.Bed, .int .i64 p0.amount, .int .i64 p0.cells, .int .i64 p0.nozzle.X, .int .i64 p0.nozzle.Y, .int .i64 p0.speed, .bool p0.has, .nils, .int .i64 p0.code])], 0)) = some (.bool r.1, hl [(0, .box 0 [.int .i64 r.2.settings.Pitch, .int .i64 r.2.settings.Height, .int .i64 r.2.settings.Walls, .int .i64 r.2.settings.Top, .int .i64 r.2.settings.Bottom, .int .i64 r.2.settings.Pattern, .int .i64 r.2.settings.Spacing, .bool r.2.settings.Support, .int .i64 r.2.settings.Reach, .int .i64 r.2.settings.Gap, .int .i64 r.2.settings.Brim, .int .i64 r.2.settings.Skirt, .int .i64 r.2.settings.Drop, .int .i64 r.2.settings.Feed, .int .i64 r.2.settings.Travel, .int .i64 r.2.settings.Retract, .int .i64 r.2.settings.MinTime, .int .i64 r.2.settings.MinFeed, .int .i64 r.2.settings.Nozzle, .int .i64 r.2.settings.Bed, .int .i64 r.2.amount, .int .i64 r.2.cells, .int .i64 r.2.nozzle.X, .int .i64 r.2.nozzle.Y, .int .i64 r.2.speed, .bool r.2.has, .nils, .int .i64 r.2.code])]) ∧ r.2.out = FS.nil := by
 unfold t_emit_emitter_moves at h
 simp only [e06, flen_nil] at h
 by_cases c1 : (ieq (flen p1.Cells) 0) = true
 · rw [if_pos c1] at h
   cases h
   refine ⟨?_, by first | rfl | simp [*]⟩
   refine FC_byref (lf := lf119) rfl rfl rfl ?_
   simp only [lf119, lc119]
   simp (maxSteps := 4000000) [c1, e06]
 · rw [if_neg c1] at h
   rw [Bool.not_eq_true] at c1
   by_cases c2 : (bor (ilt p1.Speed 1) (igt p1.Speed 1048576)) = true
   · rw [if_pos c2] at h
     cases h
     refine ⟨?_, by first | rfl | simp [*]⟩
     refine FC_byref (lf := lf119) rfl rfl rfl ?_
     simp only [lf119, lc119]
     rcases tof (ilt p1.Speed 1) with a3 | a3
     · simp (maxSteps := 4000000) [c1, a3, e06]
     · rcases tof (igt p1.Speed 1048576) with a4 | a4
       · simp (maxSteps := 4000000) [c1, a3, a4, e06]
       · simp [c1, a3, a4] at c2
   · rw [if_neg c2] at h
     rw [Bool.not_eq_true] at c2
     cases h
     refine ⟨?_, by first | rfl | simp [*]⟩
     refine FC_byref (lf := lf119) rfl rfl rfl ?_
     simp only [lf119, lc119]
     rcases tof (ilt p1.Speed 1) with a5 | a5
     · simp [c1, a5] at c2
     · rcases tof (igt p1.Speed 1048576) with a6 | a6
       · simp [c1, a5, a6] at c2
       · simp (maxSteps := 4000000) [c1, a5, a6, e06]
theorem t_emit_emitter_moves_okO {p0 : emit_emitter} {p1 : api_Op} {le06 : List api_Cmd} (e06 : p0.out = FS.lst le06) {r : (Bool × emit_emitter)} (h : t_emit_emitter_moves p0 p1 = some r) : FC env 119 [.ptr 0 0 0, .agg [.int .i64 p1.Kind, .int .i64 p1.Role, .int .i64 p1.Layer, .int .i64 p1.Z, .int .i64 p1.Speed, encF e_api_Cell p1.Cells]] (some (hl [(0, .box 0 [.int .i64 p0.settings.Pitch, .int .i64 p0.settings.Height, .int .i64 p0.settings.Walls, .int .i64 p0.settings.Top, .int .i64 p0.settings.Bottom, .int .i64 p0.settings.Pattern, .int .i64 p0.settings.Spacing, .bool p0.settings.Support, .int .i64 p0.settings.Reach, .int .i64 p0.settings.Gap, .int .i64 p0.settings.Brim, .int .i64 p0.settings.Skirt, .int .i64 p0.settings.Drop, .int .i64 p0.settings.Feed, .int .i64 p0.settings.Travel, .int .i64 p0.settings.Retract, .int .i64 p0.settings.MinTime, .int .i64 p0.settings.MinFeed, .int .i64 p0.settings.Nozzle, .int .i64 p0.settings.Bed, .int .i64 p0.amount, .int .i64 p0.cells, .int .i64 p0.nozzle.X, .int .i64 p0.nozzle.Y, .int .i64 p0.speed, .bool p0.has, .arr 1000026 0 0 p0.out.l.length, .int .i64 p0.code]), (1000026, .arr 0 8 55 (cellsE e_api_Cmd p0.out.l) false)], 0)) = some (.bool r.1, hl [(0, .box 0 [.int .i64 r.2.settings.Pitch, .int .i64 r.2.settings.Height, .int .i64 r.2.settings.Walls, .int .i64 r.2.settings.Top, .int .i64 r.2.settings.Bottom, .int .i64 r.2.settings.Pattern, .int .i64 r.2.settings.Spacing, .bool r.2.settings.Support, .int .i64 r.2.settings.Reach, .int .i64 r.2.settings.Gap, .int .i64 r.2.settings.Brim, .int .i64 r.2.settings.Skirt, .int .i64 r.2.settings.Drop, .int .i64 r.2.settings.Feed, .int .i64 r.2.settings.Travel, .int .i64 r.2.settings.Retract, .int .i64 r.2.settings.MinTime, .int .i64 r.2.settings.MinFeed, .int .i64 r.2.settings.Nozzle, .int .i64 r.2.settings.Bed, .int .i64 r.2.amount, .int .i64 r.2.cells, .int .i64 r.2.nozzle.X, .int .i64 r.2.nozzle.Y, .int .i64 r.2.speed, .bool r.2.has, .arr 1000026 0 0 r.2.out.l.length, .int .i64 r.2.code]), (1000026, .arr 0 8 55 (cellsE e_api_Cmd r.2.out.l) false)]) ∧ ∃ l, r.2.out = FS.lst l := by
 unfold t_emit_emitter_moves at h
 simp only [e06, flen_nil] at h
 by_cases c1 : (ieq (flen p1.Cells) 0) = true
 · rw [if_pos c1] at h
   cases h
   refine ⟨?_, by first | exact ⟨_, rfl⟩ | exact ⟨_, by assumption⟩⟩
   refine FC_byref (lf := lf119) rfl rfl rfl ?_
   simp only [lf119, lc119]
   simp (maxSteps := 4000000) [c1, e06]
 · rw [if_neg c1] at h
   rw [Bool.not_eq_true] at c1
   by_cases c2 : (bor (ilt p1.Speed 1) (igt p1.Speed 1048576)) = true
   · rw [if_pos c2] at h
     cases h
     refine ⟨?_, by first | exact ⟨_, rfl⟩ | exact ⟨_, by assumption⟩⟩
     refine FC_byref (lf := lf119) rfl rfl rfl ?_
     simp only [lf119, lc119]
     rcases tof (ilt p1.Speed 1) with a3 | a3
     · simp (maxSteps := 4000000) [c1, a3, e06]
     · rcases tof (igt p1.Speed 1048576) with a4 | a4
       · simp (maxSteps := 4000000) [c1, a3, a4, e06]
       · simp [c1, a3, a4] at c2
   · rw [if_neg c2] at h
     rw [Bool.not_eq_true] at c2
     cases h
     refine ⟨?_, by first | exact ⟨_, rfl⟩ | exact ⟨_, by assumption⟩⟩
     refine FC_byref (lf := lf119) rfl rfl rfl ?_
     simp only [lf119, lc119]
     rcases tof (ilt p1.Speed 1) with a5 | a5
     · simp [c1, a5] at c2
     · rcases tof (igt p1.Speed 1048576) with a6 | a6
       · simp [c1, a5, a6] at c2
       · simp (maxSteps := 4000000) [c1, a5, a6, e06]

/-! emit.emitter).filament -/
attribute [simp] c121_0 c121_1
def t_emit_emitter_filament (p0 : emit_emitter) (p1 : Int) : Option Int := (match t_flow_Volume (iadd .i64 p0.cells p1) p0.settings with
 | none => none
 | some v3 => (if ieq p0.settings.Drop 0 = true then none else some (iquo .i64 v3 p0.settings.Drop)))
theorem t_emit_emitter_filament_ok {p0 : emit_emitter} {p1 : Int} {r : Int} (h : t_emit_emitter_filament p0 p1 = some r) : FC env 121 [.rptr [.int .i64 p0.settings.Pitch, .int .i64 p0.settings.Height, .int .i64 p0.settings.Walls, .int .i64 p0.settings.Top, .int .i64 p0.settings.Bottom, .int .i64 p0.settings.Pattern, .int .i64 p0.settings.Spacing, .bool p0.settings.Support, .int .i64 p0.settings.Reach, .int .i64 p0.settings.Gap, .int .i64 p0.settings.Brim, .int .i64 p0.settings.Skirt, .int .i64 p0.settings.Drop, .int .i64 p0.settings.Feed, .int .i64 p0.settings.Travel, .int .i64 p0.settings.Retract, .int .i64 p0.settings.MinTime, .int .i64 p0.settings.MinFeed, .int .i64 p0.settings.Nozzle, .int .i64 p0.settings.Bed, .int .i64 p0.amount, .int .i64 p0.cells, .int .i64 p0.nozzle.X, .int .i64 p0.nozzle.Y, .int .i64 p0.speed, .bool p0.has, encF e_api_Cmd p0.out, .int .i64 p0.code], .int .i64 p1] none = some (.int .i64 r, fun _ => none) := by
 unfold t_emit_emitter_filament at h
 cases h2 : t_flow_Volume (iadd .i64 p0.cells p1) p0.settings with
 | none => (rw [h2] at h; cases h)
 | some v3 =>
  simp only [h2] at h
  have f1 := t_flow_Volume_ok h2
  by_cases h4 : ieq p0.settings.Drop 0 = true
  · rw [if_pos h4] at h; cases h
  · rw [if_neg h4] at h
    rw [Bool.not_eq_true] at h4
    cases h
    refine FC_pure (lf := lf121) rfl rfl rfl ?_
    simp only [lf121, lc121]
    simp (maxSteps := 4000000) [f1, h4]

/-! emit.emitter).fast -/
attribute [simp] c118_0 c118_1 c118_2 c118_3 c118_4 c118_5 c118_6
def t_emit_emitter_fast (p0 : emit_emitter) (p1 : api_Cmd) (p2 : Int) : Option (api_Cmd × emit_emitter) := (if (bor (bnot p0.has) (ine p2 p0.speed)) = true then some ((⟨p1.Code, (ior .i64 p1.Has 16), p1.X, p1.Y, p1.Z, p1.E, p2, p1.S⟩ : api_Cmd), (⟨p0.settings, p0.amount, p0.cells, p0.nozzle, p2, true, p0.out, p0.code⟩ : emit_emitter))
 else some (p1, (⟨p0.settings, p0.amount, p0.cells, p0.nozzle, p0.speed, p0.has, p0.out, p0.code⟩ : emit_emitter)))
theorem t_emit_emitter_fast_okN {p0 : emit_emitter} {p1 : api_Cmd} {p2 : Int} (e06 : p0.out = FS.nil) {r : (api_Cmd × emit_emitter)} (h : t_emit_emitter_fast p0 p1 p2 = some r) : FC env 118 [.ptr 0 0 0, .agg [.int .i64 p1.Code, .int .i64 p1.Has, .int .i64 p1.X, .int .i64 p1.Y, .int .i64 p1.Z, .int .i64 p1.E, .int .i64 p1.F, .int .i64 p1.S], .int .i64 p2] (some (hl [(0, .box 0 [.int .i64 p0.settings.Pitch, .int .i64 p0.settings.Height, .int .i64 p0.settings.Walls, .int .i64 p0.settings.Top, .int .i64 p0.settings.Bottom, .int .i64 p0.settings.Pattern, .int .i64 p0.settings.Spacing, .bool p0.settings.Support, .int .i64 p0.settings.Reach, .int .i64 p0.settings.Gap, .int .i64 p0.settings.Brim, .int .i64 p0.settings.Skirt, .int .i64 p0.settings.Drop, .int .i64 p0.settings.Feed, .int .i64 p0.settings.Travel, .int .i64 p0.settings.Retract, .int .i64 p0.settings.MinTime, .int .i64 p0.settings.MinFeed, .int .i64 p0.settings.Nozzle, .int .i64 p0.settings.Bed, .int .i64 p0.amount, .int .i64 p0.cells, .int .i64 p0.nozzle.X, .int .i64 p0.nozzle.Y, .int .i64 p0.speed, .bool p0.has, .nils, .int .i64 p0.code])], 0)) = some (.agg [.int .i64 r.1.Code, .int .i64 r.1.Has, .int .i64 r.1.X, .int .i64 r.1.Y, .int .i64 r.1.Z, .int .i64 r.1.E, .int .i64 r.1.F, .int .i64 r.1.S], hl [(0, .box 0 [.int .i64 r.2.settings.Pitch, .int .i64 r.2.settings.Height, .int .i64 r.2.settings.Walls, .int .i64 r.2.settings.Top, .int .i64 r.2.settings.Bottom, .int .i64 r.2.settings.Pattern, .int .i64 r.2.settings.Spacing, .bool r.2.settings.Support, .int .i64 r.2.settings.Reach, .int .i64 r.2.settings.Gap, .int .i64 r.2.settings.Brim, .int .i64 r.2.settings.Skirt, .int .i64 r.2.settings.Drop, .int .i64 r.2.settings.Feed, .int .i64 r.2.settings.Travel, .int .i64 r.2.settings.Retract, .int .i64 r.2.settings.MinTime, .int .i64 r.2.settings.MinFeed, .int .i64 r.2.settings.Nozzle, .int .i64 r.2.settings.Bed, .int .i64 r.2.amount, .int .i64 r.2.cells, .int .i64 r.2.nozzle.X, .int .i64 r.2.nozzle.Y, .int .i64 r.2.speed, .bool r.2.has, .nils, .int .i64 r.2.code])]) ∧ r.2.out = FS.nil := by
 unfold t_emit_emitter_fast at h
 simp only [e06, flen_nil] at h
 by_cases c1 : (bor (bnot p0.has) (ine p2 p0.speed)) = true
 · rw [if_pos c1] at h
   cases h
   refine ⟨?_, by first | rfl | simp [*]⟩
   refine FC_byref (lf := lf118) rfl rfl rfl ?_
   simp only [lf118, lc118]
   rcases tof p0.has with a2 | a2
   · rcases tof (ine p2 p0.speed) with a3 | a3
     · simp (maxSteps := 4000000) [a2, a3, e06]
     · simp [a2, a3] at c1
   · simp (maxSteps := 4000000) [a2, e06]
 · rw [if_neg c1] at h
   rw [Bool.not_eq_true] at c1
   cases h
   refine ⟨?_, by first | rfl | simp [*]⟩
   refine FC_byref (lf := lf118) rfl rfl rfl ?_
   simp only [lf118, lc118]
   rcases tof p0.has with a4 | a4
   · rcases tof (ine p2 p0.speed) with a5 | a5
     · simp [a4, a5] at c1
     · simp (maxSteps := 4000000) [a4, a5, e06]
   · simp [a4] at c1
theorem t_emit_emitter_fast_okO {p0 : emit_emitter} {p1 : api_Cmd} {p2 : Int} {le06 : List api_Cmd} (e06 : p0.out = FS.lst le06) {r : (api_Cmd × emit_emitter)} (h : t_emit_emitter_fast p0 p1 p2 = some r) : FC env 118 [.ptr 0 0 0, .agg [.int .i64 p1.Code, .int .i64 p1.Has, .int .i64 p1.X, .int .i64 p1.Y, .int .i64 p1.Z, .int .i64 p1.E, .int .i64 p1.F, .int .i64 p1.S], .int .i64 p2] (some (hl [(0, .box 0 [.int .i64 p0.settings.Pitch, .int .i64 p0.settings.Height, .int .i64 p0.settings.Walls, .int .i64 p0.settings.Top, .int .i64 p0.settings.Bottom, .int .i64 p0.settings.Pattern, .int .i64 p0.settings.Spacing, .bool p0.settings.Support, .int .i64 p0.settings.Reach, .int .i64 p0.settings.Gap, .int .i64 p0.settings.Brim, .int .i64 p0.settings.Skirt, .int .i64 p0.settings.Drop, .int .i64 p0.settings.Feed, .int .i64 p0.settings.Travel, .int .i64 p0.settings.Retract, .int .i64 p0.settings.MinTime, .int .i64 p0.settings.MinFeed, .int .i64 p0.settings.Nozzle, .int .i64 p0.settings.Bed, .int .i64 p0.amount, .int .i64 p0.cells, .int .i64 p0.nozzle.X, .int .i64 p0.nozzle.Y, .int .i64 p0.speed, .bool p0.has, .arr 1000026 0 0 p0.out.l.length, .int .i64 p0.code]), (1000026, .arr 0 8 55 (cellsE e_api_Cmd p0.out.l) false)], 0)) = some (.agg [.int .i64 r.1.Code, .int .i64 r.1.Has, .int .i64 r.1.X, .int .i64 r.1.Y, .int .i64 r.1.Z, .int .i64 r.1.E, .int .i64 r.1.F, .int .i64 r.1.S], hl [(0, .box 0 [.int .i64 r.2.settings.Pitch, .int .i64 r.2.settings.Height, .int .i64 r.2.settings.Walls, .int .i64 r.2.settings.Top, .int .i64 r.2.settings.Bottom, .int .i64 r.2.settings.Pattern, .int .i64 r.2.settings.Spacing, .bool r.2.settings.Support, .int .i64 r.2.settings.Reach, .int .i64 r.2.settings.Gap, .int .i64 r.2.settings.Brim, .int .i64 r.2.settings.Skirt, .int .i64 r.2.settings.Drop, .int .i64 r.2.settings.Feed, .int .i64 r.2.settings.Travel, .int .i64 r.2.settings.Retract, .int .i64 r.2.settings.MinTime, .int .i64 r.2.settings.MinFeed, .int .i64 r.2.settings.Nozzle, .int .i64 r.2.settings.Bed, .int .i64 r.2.amount, .int .i64 r.2.cells, .int .i64 r.2.nozzle.X, .int .i64 r.2.nozzle.Y, .int .i64 r.2.speed, .bool r.2.has, .arr 1000026 0 0 r.2.out.l.length, .int .i64 r.2.code]), (1000026, .arr 0 8 55 (cellsE e_api_Cmd r.2.out.l) false)]) ∧ ∃ l, r.2.out = FS.lst l := by
 unfold t_emit_emitter_fast at h
 simp only [e06, flen_nil] at h
 by_cases c1 : (bor (bnot p0.has) (ine p2 p0.speed)) = true
 · rw [if_pos c1] at h
   cases h
   refine ⟨?_, by first | exact ⟨_, rfl⟩ | exact ⟨_, by assumption⟩⟩
   refine FC_byref (lf := lf118) rfl rfl rfl ?_
   simp only [lf118, lc118]
   rcases tof p0.has with a2 | a2
   · rcases tof (ine p2 p0.speed) with a3 | a3
     · simp (maxSteps := 4000000) [a2, a3, e06]
     · simp [a2, a3] at c1
   · simp (maxSteps := 4000000) [a2, e06]
 · rw [if_neg c1] at h
   rw [Bool.not_eq_true] at c1
   cases h
   refine ⟨?_, by first | exact ⟨_, rfl⟩ | exact ⟨_, by assumption⟩⟩
   refine FC_byref (lf := lf118) rfl rfl rfl ?_
   simp only [lf118, lc118]
   rcases tof p0.has with a4 | a4
   · rcases tof (ine p2 p0.speed) with a5 | a5
     · simp [a4, a5] at c1
     · simp (maxSteps := 4000000) [a4, a5, e06]
   · simp [a4] at c1

/-! emit.direction -/
attribute [simp] c110_0 c110_1
def u_emit_direction (p0 : api_Cell) (p1 : api_Cell) : api_Cell := (⟨(isub .i64 p1.X p0.X), (isub .i64 p1.Y p0.Y)⟩ : api_Cell)
def t_emit_direction (p0 : api_Cell) (p1 : api_Cell) : Option api_Cell := some (u_emit_direction p0 p1)
theorem u_emit_direction_ok (p0 : api_Cell) (p1 : api_Cell) : FC env 110 [.agg [.int .i64 p0.X, .int .i64 p0.Y], .agg [.int .i64 p1.X, .int .i64 p1.Y]] none = some (.agg [.int .i64 (((u_emit_direction p0 p1)).X), .int .i64 (((u_emit_direction p0 p1)).Y)], fun _ => none) := by
 unfold u_emit_direction
 refine FC_pure (lf := lf110) rfl rfl rfl ?_
 simp only [lf110, lc110]
 simp (maxSteps := 4000000) []
theorem t_emit_direction_ok {p0 : api_Cell} {p1 : api_Cell} {r : api_Cell} (h : t_emit_direction p0 p1 = some r) : FC env 110 [.agg [.int .i64 p0.X, .int .i64 p0.Y], .agg [.int .i64 p1.X, .int .i64 p1.Y]] none = some (.agg [.int .i64 r.X, .int .i64 r.Y], fun _ => none) := by
 cases h
 exact u_emit_direction_ok _ _

/-! emit.turns -/
attribute [simp] c85_0 c85_1 c85_2 c85_3 c85_4 c85_5 c85_6 c85_7 c85_8 c85_10
theorem c85_L0_u (Γ : Env) (ps : List Nat) (σ : St) : EC Γ ps 0 c85_L0 σ = EC Γ ps 0 (.seq (.reg false c85_3) (.seq (.cond (.t 11) .skip (.seq (.trim [5]) (.exit 0))) (.seq (.blk 1 (.seq (.reg false c85_4) (.seq (.seq (.reg true c85_5) (.cond (.t 32) (.reg false c85_6) .skip)) (.reg false c85_7)))) (.reg false c85_8)))) σ := rfl
attribute [simp ↓] c85_L0_u
def t_emit_turns_L0 (k0 : (FS api_Cell)) (k1 : (FS api_Cell)) (k2 : Int) (s : (api_Cell × (FS Int) × Int)) : Option (LR (api_Cell × (FS Int) × Int) (FS Int)) := match s with
 | (s0, s1, s2) => (if (ilt s2 k2) = true then (match fget k1 s2 with
 | none => none
 | some v4 => (match gOpt (bnot (ieq s2 (isub .i64 (flen k0) 1))) (fget k0 (iadd .i64 s2 1)) with
 | none => none
 | some v8 => (if (bor (ieq s2 (isub .i64 (flen k0) 1)) (bnot (band (ieq (((u_emit_direction s0 v4)).X) (((u_emit_direction v4 (v8.getD (⟨0, 0⟩ : api_Cell)))).X)) (band (ieq (((u_emit_direction s0 v4)).Y) (((u_emit_direction v4 (v8.getD (⟨0, 0⟩ : api_Cell)))).Y)) true)))) = true then (if fits 8 ((flen s1) + 1) = true then some (.nx (v4, (fsnoc s1 s2), (iadd .i64 s2 1))) else none)
 else some (.nx (v4, s1, (iadd .i64 s2 1))))))
 else some (.dn s1))
def t_emit_turns_L0_st (k0 : (FS api_Cell)) (k1 : (FS api_Cell)) (k2 : Int) (s : (api_Cell × (FS Int) × Int)) : St := match s with
 | (s0, s1, s2) => (fcase s1 (⟨fr [(0, encF e_api_Cell k0), (3, .ptr 3 0 0), (5, .nils), (8, encF e_api_Cell k1), (9, .int .i64 k2), (10, .int .i64 s2)], hl [(3, .box 0 [.int .i64 s0.X, .int .i64 s0.Y])]⟩)
  (fun l0 => ⟨fr [(0, encF e_api_Cell k0), (3, .ptr 3 0 0), (5, .arr 5 0 0 l0.l.length), (8, encF e_api_Cell k1), (9, .int .i64 k2), (10, .int .i64 s2)], hl [(3, .box 0 [.int .i64 s0.X, .int .i64 s0.Y]), (5, .arr 0 1 3 (cellsE e_i64 l0.l) false)]⟩))
def t_emit_turns_L0_out (k0 : (FS api_Cell)) (k1 : (FS api_Cell)) (k2 : Int) (x : (FS Int)) : LE × St := (fcase x (.exit 0, ⟨fr [(5, .nils)], hl []⟩)
  (fun l0 => (.exit 0, ⟨fr [(5, .arr 5 0 0 l0.l.length)], hl [(5, .arr 0 1 3 (cellsE e_i64 l0.l) false)]⟩)))
theorem t_emit_turns_L0_ok {k0 : (FS api_Cell)} {k1 : (FS api_Cell)} {k2 : Int} {s : (api_Cell × (FS Int) × Int)} {r : (FS Int)} (h : loopT (t_emit_turns_L0 k0 k1 k2) bigN s = some r) : LK env [] 0 [0, 3, 5, 8, 9, 10] c85_L0 (some (t_emit_turns_L0_st k0 k1 k2 s)) = some (t_emit_turns_L0_out k0 k1 k2 r) := loop_walk (st := t_emit_turns_L0_st k0 k1 k2) (out := t_emit_turns_L0_out k0 k1 k2) (by
 clear h s r
 rintro ⟨s0, s1, s2⟩ x h
 simp only [t_emit_turns_L0] at h
 cases e2 : s1 with
 | nil =>
  try simp only [e2, flen_nil] at h
  by_cases c3 : (ilt s2 k2) = true
  · rw [if_pos c3] at h
    cases h5 : fget k1 s2 with
    | none => (rw [h5] at h; cases h)
    | some v6 =>
     simp only [h5] at h
     have f4 := iaddr_F (e := e_api_Cell) h5
     have f7 := u_emit_direction_ok s0 v6
     cases h9 : gOpt (bnot (ieq s2 (isub .i64 (flen k0) 1))) (fget k0 (iadd .i64 s2 1)) with
     | none => (rw [h9] at h; cases h)
     | some v10 =>
      simp only [h9] at h
      have f8 := fun (q0 : (ieq s2 (isub .i64 (flen k0) 1)) = false) => iaddr_F (e := e_api_Cell) (gOpt_getD (⟨0, 0⟩ : api_Cell) h9 (bnot_mk q0))
      have f11 := u_emit_direction_ok v6 (v10.getD (⟨0, 0⟩ : api_Cell))
      by_cases c12 : (bor (ieq s2 (isub .i64 (flen k0) 1)) (bnot (band (ieq (((u_emit_direction s0 v6)).X) (((u_emit_direction v6 (v10.getD (⟨0, 0⟩ : api_Cell)))).X)) (band (ieq (((u_emit_direction s0 v6)).Y) (((u_emit_direction v6 (v10.getD (⟨0, 0⟩ : api_Cell)))).Y)) true)))) = true
      · rw [if_pos c12] at h
        by_cases h14 : fits 8 (0 + 1) = true
        · rw [if_pos h14] at h
          have f13 := fun H g0 hg y => @app_nil _ _ e_i64 _ s2 8 h14 (by decide) H g0 3 y hg
          simp only [e_i64] at f13
          cases h
          show LK env [] 0 [0, 3, 5, 8, 9, 10] c85_L0 (some (t_emit_turns_L0_st _ _ _ _)) = LK env [] 0 [0, 3, 5, 8, 9, 10] c85_L0 (some (t_emit_turns_L0_st _ _ _ _))
          simp only [t_emit_turns_L0_st, e2]
          rw [LK_step]
          rcases tof (ieq s2 (isub .i64 (flen k0) 1)) with a15 | a15
          · simp (maxSteps := 4000000) [c3, a15, e2, f4, f7, f8, f11, f13]
          · rcases tof (ieq (((u_emit_direction s0 v6)).X) (((u_emit_direction v6 (v10.getD (⟨0, 0⟩ : api_Cell)))).X)) with a16 | a16
            · rcases tof (ieq (((u_emit_direction s0 v6)).Y) (((u_emit_direction v6 (v10.getD (⟨0, 0⟩ : api_Cell)))).Y)) with a17 | a17
              · simp [c3, a15, a16, a17] at c12
              · simp (maxSteps := 4000000) [c3, a15, a16, a17, e2, f4, f7, f8, f11, f13]
            · simp (maxSteps := 4000000) [c3, a15, a16, e2, f4, f7, f8, f11, f13]
        · rw [if_neg h14] at h; cases h
      · rw [if_neg c12] at h
        rw [Bool.not_eq_true] at c12
        cases h
        show LK env [] 0 [0, 3, 5, 8, 9, 10] c85_L0 (some (t_emit_turns_L0_st _ _ _ _)) = LK env [] 0 [0, 3, 5, 8, 9, 10] c85_L0 (some (t_emit_turns_L0_st _ _ _ _))
        simp only [t_emit_turns_L0_st, e2]
        rw [LK_step]
        rcases tof (ieq s2 (isub .i64 (flen k0) 1)) with a18 | a18
        · simp [c3, a18] at c12
        · rcases tof (ieq (((u_emit_direction s0 v6)).X) (((u_emit_direction v6 (v10.getD (⟨0, 0⟩ : api_Cell)))).X)) with a19 | a19
          · rcases tof (ieq (((u_emit_direction s0 v6)).Y) (((u_emit_direction v6 (v10.getD (⟨0, 0⟩ : api_Cell)))).Y)) with a20 | a20
            · simp (maxSteps := 4000000) [c3, a18, a19, a20, e2, f4, f7, f8, f11]
            · simp [c3, a18, a19, a20] at c12
          · simp [c3, a18, a19] at c12
  · rw [if_neg c3] at h
    rw [Bool.not_eq_true] at c3
    cases h
    show LK env [] 0 [0, 3, 5, 8, 9, 10] c85_L0 (some (t_emit_turns_L0_st _ _ _ _)) = some (t_emit_turns_L0_out _ _ _ _)
    simp only [t_emit_turns_L0_st, t_emit_turns_L0_out, e2]
    rw [LK_step]
    simp (maxSteps := 4000000) [c3, e2]
 | lst l1 =>
  try simp only [e2] at h
  by_cases c21 : (ilt s2 k2) = true
  · rw [if_pos c21] at h
    cases h23 : fget k1 s2 with
    | none => (rw [h23] at h; cases h)
    | some v24 =>
     simp only [h23] at h
     have f22 := iaddr_F (e := e_api_Cell) h23
     have f25 := u_emit_direction_ok s0 v24
     cases h27 : gOpt (bnot (ieq s2 (isub .i64 (flen k0) 1))) (fget k0 (iadd .i64 s2 1)) with
     | none => (rw [h27] at h; cases h)
     | some v28 =>
      simp only [h27] at h
      have f26 := fun (q0 : (ieq s2 (isub .i64 (flen k0) 1)) = false) => iaddr_F (e := e_api_Cell) (gOpt_getD (⟨0, 0⟩ : api_Cell) h27 (bnot_mk q0))
      have f29 := u_emit_direction_ok v24 (v28.getD (⟨0, 0⟩ : api_Cell))
      by_cases c30 : (bor (ieq s2 (isub .i64 (flen k0) 1)) (bnot (band (ieq (((u_emit_direction s0 v24)).X) (((u_emit_direction v24 (v28.getD (⟨0, 0⟩ : api_Cell)))).X)) (band (ieq (((u_emit_direction s0 v24)).Y) (((u_emit_direction v24 (v28.getD (⟨0, 0⟩ : api_Cell)))).Y)) true)))) = true
      · rw [if_pos c30] at h
        by_cases h32 : fits 8 ((flen (FS.lst l1)) + 1) = true
        · rw [if_pos h32] at h
          have f31 := fun g0 H y => @app_row1 _ _ e_i64 _ (FS.lst l1) s2 8 h32 (by decide) g0 H 5 0 3 y
          simp only [e_i64] at f31
          cases h
          show LK env [] 0 [0, 3, 5, 8, 9, 10] c85_L0 (some (t_emit_turns_L0_st _ _ _ _)) = LK env [] 0 [0, 3, 5, 8, 9, 10] c85_L0 (some (t_emit_turns_L0_st _ _ _ _))
          simp only [t_emit_turns_L0_st, e2]
          rw [LK_step]
          rcases tof (ieq s2 (isub .i64 (flen k0) 1)) with a33 | a33
          · simp (maxSteps := 4000000) [c21, a33, e2, f22, f25, f26, f29, f31]
          · rcases tof (ieq (((u_emit_direction s0 v24)).X) (((u_emit_direction v24 (v28.getD (⟨0, 0⟩ : api_Cell)))).X)) with a34 | a34
            · rcases tof (ieq (((u_emit_direction s0 v24)).Y) (((u_emit_direction v24 (v28.getD (⟨0, 0⟩ : api_Cell)))).Y)) with a35 | a35
              · simp [c21, a33, a34, a35] at c30
              · simp (maxSteps := 4000000) [c21, a33, a34, a35, e2, f22, f25, f26, f29, f31]
            · simp (maxSteps := 4000000) [c21, a33, a34, e2, f22, f25, f26, f29, f31]
        · rw [if_neg h32] at h; cases h
      · rw [if_neg c30] at h
        rw [Bool.not_eq_true] at c30
        cases h
        show LK env [] 0 [0, 3, 5, 8, 9, 10] c85_L0 (some (t_emit_turns_L0_st _ _ _ _)) = LK env [] 0 [0, 3, 5, 8, 9, 10] c85_L0 (some (t_emit_turns_L0_st _ _ _ _))
        simp only [t_emit_turns_L0_st, e2]
        rw [LK_step]
        rcases tof (ieq s2 (isub .i64 (flen k0) 1)) with a36 | a36
        · simp [c21, a36] at c30
        · rcases tof (ieq (((u_emit_direction s0 v24)).X) (((u_emit_direction v24 (v28.getD (⟨0, 0⟩ : api_Cell)))).X)) with a37 | a37
          · rcases tof (ieq (((u_emit_direction s0 v24)).Y) (((u_emit_direction v24 (v28.getD (⟨0, 0⟩ : api_Cell)))).Y)) with a38 | a38
            · simp (maxSteps := 4000000) [c21, a36, a37, a38, e2, f22, f25, f26, f29]
            · simp [c21, a36, a37, a38] at c30
          · simp [c21, a36, a37] at c30
  · rw [if_neg c21] at h
    rw [Bool.not_eq_true] at c21
    cases h
    show LK env [] 0 [0, 3, 5, 8, 9, 10] c85_L0 (some (t_emit_turns_L0_st _ _ _ _)) = some (t_emit_turns_L0_out _ _ _ _)
    simp only [t_emit_turns_L0_st, t_emit_turns_L0_out, e2]
    rw [LK_step]
    simp (maxSteps := 4000000) [c21, e2]) bigN s r h
def t_emit_turns (p0 : (FS api_Cell)) (p1 : api_Cell) : Option (FS Int) := (match loopT (t_emit_turns_L0 p0 p0 (flen p0)) bigN (p1, (FS.nil : (FS Int)), 0) with
 | none => none
 | some v14 => some v14)
theorem t_emit_turns_ok {p0 : (FS api_Cell)} {p1 : api_Cell} {r : (FS Int)} (h : t_emit_turns p0 p1 = some r) : FC env 85 [encF e_api_Cell p0, .agg [.int .i64 p1.X, .int .i64 p1.Y]] none = some (encF e_i64 r, fun _ => none) := by
 unfold t_emit_turns at h
 cases h39 : loopT (t_emit_turns_L0 p0 p0 (flen p0)) bigN (p1, (FS.nil : (FS Int)), 0) with
 | none => (rw [h39] at h; cases h)
 | some v40 =>
  simp only [h39] at h
  have f41 := t_emit_turns_L0_ok h39
  simp only [t_emit_turns_L0_st, t_emit_turns_L0_out, fset_len] at f41
  cases e43 : v40 with
  | nil =>
   try simp only [e43, flen_nil] at h
   simp only [e43, flen_nil, fcase_nil, fcase_lst] at f41
   cases h
   refine FC_pure (lf := lf85) rfl rfl rfl ?_
   simp only [lf85, lc85]
   simp (maxSteps := 4000000) [f41, e43]
  | lst l42 =>
   try simp only [e43] at h
   simp only [e43, flen_nil, fcase_nil, fcase_lst] at f41
   cases h
   refine FC_pure (lf := lf85) rfl rfl rfl ?_
   simp only [lf85, lc85]
   simp (maxSteps := 4000000) [f41, e43, snap_rowD (e := e_i64) (el := 3) (fz := false)]

/-! raster.onGrid -/
attribute [simp] c131_0 c131_1
def u_raster_onGrid (p0 : Int) : Bool := (band (ige p0 (-4096)) (ilt p0 4096))
def t_raster_onGrid (p0 : Int) : Option Bool := some (u_raster_onGrid p0)
theorem u_raster_onGrid_ok (p0 : Int) : FC env 131 [.int .i64 p0] none = some (.bool (u_raster_onGrid p0), fun _ => none) := by
 unfold u_raster_onGrid
 refine FC_pure (lf := lf131) rfl rfl rfl ?_
 simp only [lf131, lc131]
 rcases tof (ige p0 (-4096)) with a1 | a1
 · simp (maxSteps := 4000000) [a1]
 · simp (maxSteps := 4000000) [a1]
theorem t_raster_onGrid_ok {p0 : Int} {r : Bool} (h : t_raster_onGrid p0 = some r) : FC env 131 [.int .i64 p0] none = some (.bool r, fun _ => none) := by
 cases h
 exact u_raster_onGrid_ok _

/-! raster.center -/
attribute [simp] c132_0 c132_1
def u_raster_center (p0 : Int) (p1 : Int) : Int := (iadd .i64 (imul .i64 p0 p1) (iquo .i64 p1 2))
def t_raster_center (p0 : Int) (p1 : Int) : Option Int := some (u_raster_center p0 p1)
theorem u_raster_center_ok (p0 : Int) (p1 : Int) : FC env 132 [.int .i64 p0, .int .i64 p1] none = some (.int .i64 (u_raster_center p0 p1), fun _ => none) := by
 unfold u_raster_center
 refine FC_pure (lf := lf132) rfl rfl rfl ?_
 simp only [lf132, lc132]
 simp (maxSteps := 4000000) [(show ieq 2 0 = false from rfl)]
theorem t_raster_center_ok {p0 : Int} {p1 : Int} {r : Int} (h : t_raster_center p0 p1 = some r) : FC env 132 [.int .i64 p0, .int .i64 p1] none = some (.int .i64 r, fun _ => none) := by
 cases h
 exact u_raster_center_ok _ _

/-! raster.Center -/
attribute [simp] c126_0 c126_1 c126_2 c126_3
def t_raster_Center (p0 : api_Cell) (p1 : Int) : Option api_Pt := (if (bor (bor (bor (bnot (u_raster_onGrid p0.X)) (bnot (u_raster_onGrid p0.Y))) (ilt p1 32)) (igt p1 1024)) = true then some (⟨0, 0⟩ : api_Pt)
 else some (⟨(u_raster_center p0.X p1), (u_raster_center p0.Y p1)⟩ : api_Pt))
theorem t_raster_Center_ok {p0 : api_Cell} {p1 : Int} {r : api_Pt} (h : t_raster_Center p0 p1 = some r) : FC env 126 [.agg [.int .i64 p0.X, .int .i64 p0.Y], .int .i64 p1] none = some (.agg [.int .i64 r.X, .int .i64 r.Y], fun _ => none) := by
 unfold t_raster_Center at h
 have f1 := u_raster_onGrid_ok p0.X
 have f2 := u_raster_onGrid_ok p0.Y
 by_cases c3 : (bor (bor (bor (bnot (u_raster_onGrid p0.X)) (bnot (u_raster_onGrid p0.Y))) (ilt p1 32)) (igt p1 1024)) = true
 · rw [if_pos c3] at h
   cases h
   refine FC_pure (lf := lf126) rfl rfl rfl ?_
   simp only [lf126, lc126]
   rcases tof (u_raster_onGrid p0.X) with a4 | a4
   · rcases tof (u_raster_onGrid p0.Y) with a5 | a5
     · rcases tof (ilt p1 32) with a6 | a6
       · simp (maxSteps := 4000000) [a4, a5, a6, f1, f2]
       · rcases tof (igt p1 1024) with a7 | a7
         · simp (maxSteps := 4000000) [a4, a5, a6, a7, f1, f2]
         · simp [a4, a5, a6, a7] at c3
     · simp (maxSteps := 4000000) [a4, a5, f1, f2]
   · simp (maxSteps := 4000000) [a4, f1, f2]
 · rw [if_neg c3] at h
   rw [Bool.not_eq_true] at c3
   have f8 := u_raster_center_ok p0.X p1
   have f9 := u_raster_center_ok p0.Y p1
   cases h
   refine FC_pure (lf := lf126) rfl rfl rfl ?_
   simp only [lf126, lc126]
   rcases tof (u_raster_onGrid p0.X) with a10 | a10
   · rcases tof (u_raster_onGrid p0.Y) with a11 | a11
     · rcases tof (ilt p1 32) with a12 | a12
       · simp [a10, a11, a12] at c3
       · rcases tof (igt p1 1024) with a13 | a13
         · simp [a10, a11, a12, a13] at c3
         · simp (maxSteps := 4000000) [a10, a11, a12, a13, f1, f2, f8, f9]
     · simp [a10, a11] at c3
   · simp [a10] at c3

/-! emit.emitter).to -/
attribute [simp] c120_0 c120_1 c120_2
def t_emit_emitter_to (p0 : emit_emitter) (p1 : Int) (p2 : api_Cell) : Option api_Cmd := (match t_raster_Center p2 p0.settings.Pitch with
 | none => none
 | some v3 => some (⟨p1, 3, v3.X, v3.Y, 0, 0, 0, 0⟩ : api_Cmd))
theorem t_emit_emitter_to_ok {p0 : emit_emitter} {p1 : Int} {p2 : api_Cell} {r : api_Cmd} (h : t_emit_emitter_to p0 p1 p2 = some r) : FC env 120 [.rptr [.int .i64 p0.settings.Pitch, .int .i64 p0.settings.Height, .int .i64 p0.settings.Walls, .int .i64 p0.settings.Top, .int .i64 p0.settings.Bottom, .int .i64 p0.settings.Pattern, .int .i64 p0.settings.Spacing, .bool p0.settings.Support, .int .i64 p0.settings.Reach, .int .i64 p0.settings.Gap, .int .i64 p0.settings.Brim, .int .i64 p0.settings.Skirt, .int .i64 p0.settings.Drop, .int .i64 p0.settings.Feed, .int .i64 p0.settings.Travel, .int .i64 p0.settings.Retract, .int .i64 p0.settings.MinTime, .int .i64 p0.settings.MinFeed, .int .i64 p0.settings.Nozzle, .int .i64 p0.settings.Bed, .int .i64 p0.amount, .int .i64 p0.cells, .int .i64 p0.nozzle.X, .int .i64 p0.nozzle.Y, .int .i64 p0.speed, .bool p0.has, encF e_api_Cmd p0.out, .int .i64 p0.code], .int .i64 p1, .agg [.int .i64 p2.X, .int .i64 p2.Y]] none = some (.agg [.int .i64 r.Code, .int .i64 r.Has, .int .i64 r.X, .int .i64 r.Y, .int .i64 r.Z, .int .i64 r.E, .int .i64 r.F, .int .i64 r.S], fun _ => none) := by
 unfold t_emit_emitter_to at h
 cases h2 : t_raster_Center p2 p0.settings.Pitch with
 | none => (rw [h2] at h; cases h)
 | some v3 =>
  simp only [h2] at h
  have f1 := t_raster_Center_ok h2
  cases h
  refine FC_pure (lf := lf120) rfl rfl rfl ?_
  simp only [lf120, lc120]
  simp (maxSteps := 4000000) [f1]

/-! emit.emitter).print -/
attribute [simp] c102_0 c102_1 c102_2 c102_3 c102_4 c102_5 c102_6 c102_7 c102_8 c102_9 c102_10 c102_11 c102_12 c102_13 c102_14 c102_16 c102_17
theorem c102_L0_u (Γ : Env) (ps : List Nat) (σ : St) : EC Γ ps 0 c102_L0 σ = EC Γ ps 0 (.seq (.reg false c102_8) (.seq (.cond (.t 49) .skip (.seq (.trim [0, 3]) (.exit 0))) (.seq (.blk 1 (.seq (.reg false c102_9) (.seq (.reg false c102_10) (.seq (.reg false c102_11) (.seq (.reg false c102_12) (.reg false c102_13)))))) (.reg false c102_14)))) σ := rfl
attribute [simp ↓] c102_L0_u
def t_emit_emitter_print_L0 (k0 : api_Op) (k1 : Int) (k2 : Int) (k3 : (FS Int)) (k4 : Int) (s : (emit_emitter × Int)) : Option (LR (emit_emitter × Int) emit_emitter) := match s with
 | (s0, s1) => (if (ilt s1 k4) = true then (match fget k3 s1 with
 | none => none
 | some v27 => (match fget k0.Cells (iadd .i64 k2 v27) with
 | none => none
 | some v30 => (match t_emit_emitter_to (⟨s0.settings, s0.amount, s0.cells, s0.nozzle, s0.speed, s0.has, s0.out, s0.code⟩ : emit_emitter) 1 v30 with
 | none => none
 | some v33 => (match t_emit_emitter_filament (⟨s0.settings, s0.amount, s0.cells, s0.nozzle, s0.speed, s0.has, s0.out, s0.code⟩ : emit_emitter) (iadd .i64 (iadd .i64 k2 v27) 1) with
 | none => none
 | some v36 => (match t_emit_emitter_fast (⟨s0.settings, s0.amount, s0.cells, s0.nozzle, s0.speed, s0.has, s0.out, s0.code⟩ : emit_emitter) (⟨v33.Code, (ior .i64 v33.Has 8), v33.X, v33.Y, v33.Z, v36, v33.F, v33.S⟩ : api_Cmd) k1 with
 | none => none
 | some v38 => (match t_emit_emitter_add (⟨v38.2.settings, v38.2.amount, v38.2.cells, v38.2.nozzle, v38.2.speed, v38.2.has, v38.2.out, v38.2.code⟩ : emit_emitter) v38.1 with
 | none => none
 | some v41 => some (.nx ((⟨v41.settings, v41.amount, v41.cells, v41.nozzle, v41.speed, v41.has, v41.out, v41.code⟩ : emit_emitter), (iadd .i64 s1 1)))))))))
 else some (.dn (⟨s0.settings, s0.amount, s0.cells, s0.nozzle, s0.speed, s0.has, s0.out, s0.code⟩ : emit_emitter)))
def t_emit_emitter_print_L0_st (k0 : api_Op) (k1 : Int) (k2 : Int) (k3 : (FS Int)) (k4 : Int) (s : (emit_emitter × Int)) : St := match s with
 | (s0, s1) => (fcase s0.out (⟨fr [(0, .ptr 0 0 0), (3, .ptr 3 0 0), (4, .int .i64 k1), (5, .int .i64 k2), (46, encF e_i64 k3), (47, .int .i64 k4), (48, .int .i64 s1)], hl [(0, .box 0 [.int .i64 s0.settings.Pitch, .int .i64 s0.settings.Height, .int .i64 s0.settings.Walls, .int .i64 s0.settings.Top, .int .i64 s0.settings.Bottom, .int .i64 s0.settings.Pattern, .int .i64 s0.settings.Spacing, .bool s0.settings.Support, .int .i64 s0.settings.Reach, .int .i64 s0.settings.Gap, .int .i64 s0.settings.Brim, .int .i64 s0.settings.Skirt, .int .i64 s0.settings.Drop, .int .i64 s0.settings.Feed, .int .i64 s0.settings.Travel, .int .i64 s0.settings.Retract, .int .i64 s0.settings.MinTime, .int .i64 s0.settings.MinFeed, .int .i64 s0.settings.Nozzle, .int .i64 s0.settings.Bed, .int .i64 s0.amount, .int .i64 s0.cells, .int .i64 s0.nozzle.X, .int .i64 s0.nozzle.Y, .int .i64 s0.speed, .bool s0.has, .nils, .int .i64 s0.code]), (3, .box 0 [.int .i64 k0.Kind, .int .i64 k0.Role, .int .i64 k0.Layer, .int .i64 k0.Z, .int .i64 k0.Speed, encF e_api_Cell k0.Cells])]⟩)
  (fun l0 => ⟨fr [(0, .ptr 0 0 0), (3, .ptr 3 0 0), (4, .int .i64 k1), (5, .int .i64 k2), (46, encF e_i64 k3), (47, .int .i64 k4), (48, .int .i64 s1)], hl [(0, .box 0 [.int .i64 s0.settings.Pitch, .int .i64 s0.settings.Height, .int .i64 s0.settings.Walls, .int .i64 s0.settings.Top, .int .i64 s0.settings.Bottom, .int .i64 s0.settings.Pattern, .int .i64 s0.settings.Spacing, .bool s0.settings.Support, .int .i64 s0.settings.Reach, .int .i64 s0.settings.Gap, .int .i64 s0.settings.Brim, .int .i64 s0.settings.Skirt, .int .i64 s0.settings.Drop, .int .i64 s0.settings.Feed, .int .i64 s0.settings.Travel, .int .i64 s0.settings.Retract, .int .i64 s0.settings.MinTime, .int .i64 s0.settings.MinFeed, .int .i64 s0.settings.Nozzle, .int .i64 s0.settings.Bed, .int .i64 s0.amount, .int .i64 s0.cells, .int .i64 s0.nozzle.X, .int .i64 s0.nozzle.Y, .int .i64 s0.speed, .bool s0.has, .arr 1000026 0 0 l0.l.length, .int .i64 s0.code]), (1000026, .arr 0 8 55 (cellsE e_api_Cmd l0.l) false), (3, .box 0 [.int .i64 k0.Kind, .int .i64 k0.Role, .int .i64 k0.Layer, .int .i64 k0.Z, .int .i64 k0.Speed, encF e_api_Cell k0.Cells])]⟩))
def t_emit_emitter_print_L0_out (k0 : api_Op) (k1 : Int) (k2 : Int) (k3 : (FS Int)) (k4 : Int) (x : emit_emitter) : LE × St := (fcase x.out (.exit 0, ⟨fr [(0, .ptr 0 0 0), (3, .ptr 3 0 0)], hl [(0, .box 0 [.int .i64 x.settings.Pitch, .int .i64 x.settings.Height, .int .i64 x.settings.Walls, .int .i64 x.settings.Top, .int .i64 x.settings.Bottom, .int .i64 x.settings.Pattern, .int .i64 x.settings.Spacing, .bool x.settings.Support, .int .i64 x.settings.Reach, .int .i64 x.settings.Gap, .int .i64 x.settings.Brim, .int .i64 x.settings.Skirt, .int .i64 x.settings.Drop, .int .i64 x.settings.Feed, .int .i64 x.settings.Travel, .int .i64 x.settings.Retract, .int .i64 x.settings.MinTime, .int .i64 x.settings.MinFeed, .int .i64 x.settings.Nozzle, .int .i64 x.settings.Bed, .int .i64 x.amount, .int .i64 x.cells, .int .i64 x.nozzle.X, .int .i64 x.nozzle.Y, .int .i64 x.speed, .bool x.has, .nils, .int .i64 x.code]), (3, .box 0 [.int .i64 k0.Kind, .int .i64 k0.Role, .int .i64 k0.Layer, .int .i64 k0.Z, .int .i64 k0.Speed, encF e_api_Cell k0.Cells])]⟩)
  (fun l0 => (.exit 0, ⟨fr [(0, .ptr 0 0 0), (3, .ptr 3 0 0)], hl [(0, .box 0 [.int .i64 x.settings.Pitch, .int .i64 x.settings.Height, .int .i64 x.settings.Walls, .int .i64 x.settings.Top, .int .i64 x.settings.Bottom, .int .i64 x.settings.Pattern, .int .i64 x.settings.Spacing, .bool x.settings.Support, .int .i64 x.settings.Reach, .int .i64 x.settings.Gap, .int .i64 x.settings.Brim, .int .i64 x.settings.Skirt, .int .i64 x.settings.Drop, .int .i64 x.settings.Feed, .int .i64 x.settings.Travel, .int .i64 x.settings.Retract, .int .i64 x.settings.MinTime, .int .i64 x.settings.MinFeed, .int .i64 x.settings.Nozzle, .int .i64 x.settings.Bed, .int .i64 x.amount, .int .i64 x.cells, .int .i64 x.nozzle.X, .int .i64 x.nozzle.Y, .int .i64 x.speed, .bool x.has, .arr 1000026 0 0 l0.l.length, .int .i64 x.code]), (1000026, .arr 0 8 55 (cellsE e_api_Cmd l0.l) false), (3, .box 0 [.int .i64 k0.Kind, .int .i64 k0.Role, .int .i64 k0.Layer, .int .i64 k0.Z, .int .i64 k0.Speed, encF e_api_Cell k0.Cells])]⟩)))
theorem t_emit_emitter_print_L0_ok {k0 : api_Op} {k1 : Int} {k2 : Int} {k3 : (FS Int)} {k4 : Int} {s : (emit_emitter × Int)} {r : emit_emitter} (h : loopT (t_emit_emitter_print_L0 k0 k1 k2 k3 k4) bigN s = some r) : LK env [0] 0 [0, 3, 4, 5, 46, 47, 48] c102_L0 (some (t_emit_emitter_print_L0_st k0 k1 k2 k3 k4 s)) = some (t_emit_emitter_print_L0_out k0 k1 k2 k3 k4 r) ∧ (Lst s.1.out → Lst r.out) := loop_walkK (P := fun s => Lst s.1.out) (Q := fun r => Lst r.out) (st := t_emit_emitter_print_L0_st k0 k1 k2 k3 k4) (out := t_emit_emitter_print_L0_out k0 k1 k2 k3 k4) (by
 clear h s r
 rintro ⟨s0, s1⟩ x h
 simp only [t_emit_emitter_print_L0] at h
 cases e30 : s0.out with
 | nil =>
  try simp only [e30, flen_nil] at h
  by_cases c31 : (ilt s1 k4) = true
  · rw [if_pos c31] at h
    cases h33 : fget k3 s1 with
    | none => (rw [h33] at h; cases h)
    | some v34 =>
     simp only [h33] at h
     have f32 := iaddr_F (e := e_i64) h33
     cases h36 : fget k0.Cells (iadd .i64 k2 v34) with
     | none => (rw [h36] at h; cases h)
     | some v37 =>
      simp only [h36] at h
      have f35 := iaddr_F (e := e_api_Cell) h36
      cases h39 : t_emit_emitter_to (⟨s0.settings, s0.amount, s0.cells, s0.nozzle, s0.speed, s0.has, (FS.nil : (FS api_Cmd)), s0.code⟩ : emit_emitter) 1 v37 with
      | none => (rw [h39] at h; cases h)
      | some v40 =>
       simp only [h39] at h
       have f38 := t_emit_emitter_to_ok h39
       try simp only [encF_nil] at f38
       cases h42 : t_emit_emitter_filament (⟨s0.settings, s0.amount, s0.cells, s0.nozzle, s0.speed, s0.has, (FS.nil : (FS api_Cmd)), s0.code⟩ : emit_emitter) (iadd .i64 (iadd .i64 k2 v34) 1) with
       | none => (rw [h42] at h; cases h)
       | some v43 =>
        simp only [h42] at h
        have f41 := t_emit_emitter_filament_ok h42
        try simp only [encF_nil] at f41
        cases h44 : t_emit_emitter_fast (⟨s0.settings, s0.amount, s0.cells, s0.nozzle, s0.speed, s0.has, (FS.nil : (FS api_Cmd)), s0.code⟩ : emit_emitter) (⟨v40.Code, (ior .i64 v40.Has 8), v40.X, v40.Y, v40.Z, v43, v40.F, v40.S⟩ : api_Cmd) k1 with
        | none => (rw [h44] at h; cases h)
        | some v45 =>
         simp only [h44] at h
         obtain ⟨f46, e47⟩ := t_emit_emitter_fast_okN rfl h44
         simp only [e47] at f46
         try simp only [e47] at h
         try simp only [fset_len, encF_nil, fcase_nil, fcase_lst, fcase_fsnoc, fcase_fapp, fcase_fset, fcase_frep, fcase_flit, fcase_flst] at f46
         try simp only [fcase_nil, fcase_lst, fcase_fsnoc, fcase_fapp, fcase_fset, fcase_frep, fcase_flit, fcase_flst] at f46
         cases h48 : t_emit_emitter_add (⟨v45.2.settings, v45.2.amount, v45.2.cells, v45.2.nozzle, v45.2.speed, v45.2.has, (FS.nil : (FS api_Cmd)), v45.2.code⟩ : emit_emitter) v45.1 with
         | none => (rw [h48] at h; cases h)
         | some v49 =>
          simp only [h48] at h
          have f50 := t_emit_emitter_add_okN rfl h48
          try simp only [fset_len, encF_nil, fcase_nil, fcase_lst, fcase_fsnoc, fcase_fapp, fcase_fset, fcase_frep, fcase_flit, fcase_flst] at f50
          cases e52 : v49.out with
          | nil =>
           try simp only [e52, flen_nil] at h
           simp only [e52, flen_nil, fcase_nil, fcase_lst] at f50
           cases h
           refine ⟨?_, fun k => ?_⟩
           · show LK env [0] 0 [0, 3, 4, 5, 46, 47, 48] c102_L0 (some (t_emit_emitter_print_L0_st _ _ _ _ _ _)) = LK env [0] 0 [0, 3, 4, 5, 46, 47, 48] c102_L0 (some (t_emit_emitter_print_L0_st _ _ _ _ _ _))
             simp only [t_emit_emitter_print_L0_st, e30]
             rw [LK_step]
             try simp only [c31] at f38 f41 f46 f50
             simp (maxSteps := 4000000) [c31, e30, f32, f35, f38, f41, e47, f46, f50, e52]
           · obtain ⟨_, k⟩ := k
             first | exact (nl_ne k).elim | exact (nl_ne (e30.symm.trans k)).elim
          | lst l51 =>
           try simp only [e52] at h
           simp only [e52, flen_nil, fcase_nil, fcase_lst] at f50
           cases h
           refine ⟨?_, fun k => ?_⟩
           · show LK env [0] 0 [0, 3, 4, 5, 46, 47, 48] c102_L0 (some (t_emit_emitter_print_L0_st _ _ _ _ _ _)) = LK env [0] 0 [0, 3, 4, 5, 46, 47, 48] c102_L0 (some (t_emit_emitter_print_L0_st _ _ _ _ _ _))
             simp only [t_emit_emitter_print_L0_st, e30]
             rw [LK_step]
             try simp only [c31] at f38 f41 f46 f50
             simp (maxSteps := 4000000) [c31, e30, f32, f35, f38, f41, e47, f46, f50, e52]
           · obtain ⟨_, k⟩ := k
             first | exact (nl_ne k).elim | exact (nl_ne (e30.symm.trans k)).elim
  · rw [if_neg c31] at h
    rw [Bool.not_eq_true] at c31
    cases h
    refine ⟨?_, fun k => ?_⟩
    · show LK env [0] 0 [0, 3, 4, 5, 46, 47, 48] c102_L0 (some (t_emit_emitter_print_L0_st _ _ _ _ _ _)) = some (t_emit_emitter_print_L0_out _ _ _ _ _ _)
      simp only [t_emit_emitter_print_L0_st, t_emit_emitter_print_L0_out, e30]
      rw [LK_step]
      simp (maxSteps := 4000000) [c31, e30]
    · obtain ⟨_, k⟩ := k
      first | exact (nl_ne k).elim | exact (nl_ne (e30.symm.trans k)).elim
 | lst l29 =>
  try simp only [e30] at h
  by_cases c53 : (ilt s1 k4) = true
  · rw [if_pos c53] at h
    cases h55 : fget k3 s1 with
    | none => (rw [h55] at h; cases h)
    | some v56 =>
     simp only [h55] at h
     have f54 := iaddr_F (e := e_i64) h55
     cases h58 : fget k0.Cells (iadd .i64 k2 v56) with
     | none => (rw [h58] at h; cases h)
     | some v59 =>
      simp only [h58] at h
      have f57 := iaddr_F (e := e_api_Cell) h58
      cases h61 : t_emit_emitter_to (⟨s0.settings, s0.amount, s0.cells, s0.nozzle, s0.speed, s0.has, (FS.lst l29), s0.code⟩ : emit_emitter) 1 v59 with
      | none => (rw [h61] at h; cases h)
      | some v62 =>
       simp only [h61] at h
       have f60 := t_emit_emitter_to_ok h61
       cases h64 : t_emit_emitter_filament (⟨s0.settings, s0.amount, s0.cells, s0.nozzle, s0.speed, s0.has, (FS.lst l29), s0.code⟩ : emit_emitter) (iadd .i64 (iadd .i64 k2 v56) 1) with
       | none => (rw [h64] at h; cases h)
       | some v65 =>
        simp only [h64] at h
        have f63 := t_emit_emitter_filament_ok h64
        cases h66 : t_emit_emitter_fast (⟨s0.settings, s0.amount, s0.cells, s0.nozzle, s0.speed, s0.has, (FS.lst l29), s0.code⟩ : emit_emitter) (⟨v62.Code, (ior .i64 v62.Has 8), v62.X, v62.Y, v62.Z, v65, v62.F, v62.S⟩ : api_Cmd) k1 with
        | none => (rw [h66] at h; cases h)
        | some v67 =>
         simp only [h66] at h
         obtain ⟨f68, ⟨l70, e69⟩⟩ := t_emit_emitter_fast_okO rfl h66
         simp only [e69] at f68
         try simp only [e69] at h
         try simp only [fset_len, encF_nil, fcase_nil, fcase_lst, fcase_fsnoc, fcase_fapp, fcase_fset, fcase_frep, fcase_flit, fcase_flst] at f68
         try simp only [fcase_nil, fcase_lst, fcase_fsnoc, fcase_fapp, fcase_fset, fcase_frep, fcase_flit, fcase_flst] at f68
         cases h71 : t_emit_emitter_add (⟨v67.2.settings, v67.2.amount, v67.2.cells, v67.2.nozzle, v67.2.speed, v67.2.has, (FS.lst l70), v67.2.code⟩ : emit_emitter) v67.1 with
         | none => (rw [h71] at h; cases h)
         | some v72 =>
          simp only [h71] at h
          obtain ⟨f73, ⟨l75, e74⟩⟩ := t_emit_emitter_add_okO rfl h71
          simp only [e74] at f73
          try simp only [e74] at h
          try simp only [fset_len, encF_nil, fcase_nil, fcase_lst, fcase_fsnoc, fcase_fapp, fcase_fset, fcase_frep, fcase_flit, fcase_flst] at f73
          try simp only [fcase_nil, fcase_lst, fcase_fsnoc, fcase_fapp, fcase_fset, fcase_frep, fcase_flit, fcase_flst] at f73
          cases h
          refine ⟨?_, fun k => ?_⟩
          · show LK env [0] 0 [0, 3, 4, 5, 46, 47, 48] c102_L0 (some (t_emit_emitter_print_L0_st _ _ _ _ _ _)) = LK env [0] 0 [0, 3, 4, 5, 46, 47, 48] c102_L0 (some (t_emit_emitter_print_L0_st _ _ _ _ _ _))
            simp only [t_emit_emitter_print_L0_st, e30]
            rw [LK_step]
            try simp only [c53] at f60 f63 f68 f73
            simp (maxSteps := 4000000) [c53, e30, f54, f57, snap_rowD (e := e_api_Cmd) (el := 55) (fz := false), f60, snap_rowD (e := e_api_Cmd) (el := 55) (fz := false), f63, e69, f68, e74, f73]
          · first | exact ⟨_, rfl⟩ | exact ⟨_, by assumption⟩
  · rw [if_neg c53] at h
    rw [Bool.not_eq_true] at c53
    cases h
    refine ⟨?_, fun k => ?_⟩
    · show LK env [0] 0 [0, 3, 4, 5, 46, 47, 48] c102_L0 (some (t_emit_emitter_print_L0_st _ _ _ _ _ _)) = some (t_emit_emitter_print_L0_out _ _ _ _ _ _)
      simp only [t_emit_emitter_print_L0_st, t_emit_emitter_print_L0_out, e30]
      rw [LK_step]
      simp (maxSteps := 4000000) [c53, e30]
    · first | exact ⟨_, rfl⟩ | exact ⟨_, by assumption⟩) bigN s r h
def t_emit_emitter_print (p0 : emit_emitter) (p1 : api_Op) : Option emit_emitter := (match t_emit_emitter_moves (⟨p0.settings, p0.amount, p0.cells, p0.nozzle, p0.speed, p0.has, p0.out, p0.code⟩ : emit_emitter) p1 with
 | none => none
 | some v2 => (if (bnot v2.1) = true then some (⟨v2.2.settings, v2.2.amount, v2.2.cells, v2.2.nozzle, v2.2.speed, v2.2.has, v2.2.out, v2.2.code⟩ : emit_emitter)
 else (match fget p1.Cells 0 with
 | none => none
 | some v7 => (if (band (ieq v7.X v2.2.nozzle.X) (band (ieq v7.Y v2.2.nozzle.Y) true)) = true then (match t_emit_emitter_filament (⟨v2.2.settings, v2.2.amount, v2.2.cells, v2.2.nozzle, v2.2.speed, v2.2.has, v2.2.out, v2.2.code⟩ : emit_emitter) 1 with
 | none => none
 | some v11 => (match t_emit_emitter_fast (⟨v2.2.settings, v2.2.amount, v2.2.cells, v2.2.nozzle, v2.2.speed, v2.2.has, v2.2.out, v2.2.code⟩ : emit_emitter) (⟨1, 8, 0, 0, 0, v11, 0, 0⟩ : api_Cmd) (imul .i64 p1.Speed v2.2.settings.Pitch) with
 | none => none
 | some v13 => (match t_emit_emitter_add (⟨v13.2.settings, v13.2.amount, v13.2.cells, v13.2.nozzle, v13.2.speed, v13.2.has, v13.2.out, v13.2.code⟩ : emit_emitter) v13.1 with
 | none => none
 | some v16 => (match fsl p1.Cells 1 (flen p1.Cells) with
 | none => none
 | some v20 => (match t_emit_turns v20 v16.nozzle with
 | none => none
 | some v23 => (match loopT (t_emit_emitter_print_L0 p1 (imul .i64 p1.Speed v2.2.settings.Pitch) 1 v23 (flen v23)) bigN ((⟨v16.settings, v16.amount, v16.cells, v16.nozzle, v16.speed, v16.has, v16.out, v16.code⟩ : emit_emitter), 0) with
 | none => none
 | some v44 => (match fget p1.Cells (isub .i64 (flen p1.Cells) 1) with
 | none => none
 | some v48 => some (⟨v44.settings, v44.amount, (iadd .i64 v44.cells (flen p1.Cells)), v48, v44.speed, v44.has, v44.out, v44.code⟩ : emit_emitter))))))))
 else (match fsl p1.Cells 0 (flen p1.Cells) with
 | none => none
 | some v51 => (match t_emit_turns v51 v2.2.nozzle with
 | none => none
 | some v54 => (match loopT (t_emit_emitter_print_L0 p1 (imul .i64 p1.Speed v2.2.settings.Pitch) 0 v54 (flen v54)) bigN ((⟨v2.2.settings, v2.2.amount, v2.2.cells, v2.2.nozzle, v2.2.speed, v2.2.has, v2.2.out, v2.2.code⟩ : emit_emitter), 0) with
 | none => none
 | some v56 => (match fget p1.Cells (isub .i64 (flen p1.Cells) 1) with
 | none => none
 | some v60 => some (⟨v56.settings, v56.amount, (iadd .i64 v56.cells (flen p1.Cells)), v60, v56.speed, v56.has, v56.out, v56.code⟩ : emit_emitter)))))))))
theorem t_emit_emitter_print_okN {p0 : emit_emitter} {p1 : api_Op} (e06 : p0.out = FS.nil) {r : emit_emitter} (h : t_emit_emitter_print p0 p1 = some r) : FC env 102 [.ptr 0 0 0, .agg [.int .i64 p1.Kind, .int .i64 p1.Role, .int .i64 p1.Layer, .int .i64 p1.Z, .int .i64 p1.Speed, encF e_api_Cell p1.Cells]] (some (hl [(0, .box 0 [.int .i64 p0.settings.Pitch, .int .i64 p0.settings.Height, .int .i64 p0.settings.Walls, .int .i64 p0.settings.Top, .int .i64 p0.settings.Bottom, .int .i64 p0.settings.Pattern, .int .i64 p0.settings.Spacing, .bool p0.settings.Support, .int .i64 p0.settings.Reach, .int .i64 p0.settings.Gap, .int .i64 p0.settings.Brim, .int .i64 p0.settings.Skirt, .int .i64 p0.settings.Drop, .int .i64 p0.settings.Feed, .int .i64 p0.settings.Travel, .int .i64 p0.settings.Retract, .int .i64 p0.settings.MinTime, .int .i64 p0.settings.MinFeed, .int .i64 p0.settings.Nozzle, .int .i64 p0.settings.Bed, .int .i64 p0.amount, .int .i64 p0.cells, .int .i64 p0.nozzle.X, .int .i64 p0.nozzle.Y, .int .i64 p0.speed, .bool p0.has, .nils, .int .i64 p0.code])], 0)) = some (.tup [], (fcase r.out (hl [(0, .box 0 [.int .i64 r.settings.Pitch, .int .i64 r.settings.Height, .int .i64 r.settings.Walls, .int .i64 r.settings.Top, .int .i64 r.settings.Bottom, .int .i64 r.settings.Pattern, .int .i64 r.settings.Spacing, .bool r.settings.Support, .int .i64 r.settings.Reach, .int .i64 r.settings.Gap, .int .i64 r.settings.Brim, .int .i64 r.settings.Skirt, .int .i64 r.settings.Drop, .int .i64 r.settings.Feed, .int .i64 r.settings.Travel, .int .i64 r.settings.Retract, .int .i64 r.settings.MinTime, .int .i64 r.settings.MinFeed, .int .i64 r.settings.Nozzle, .int .i64 r.settings.Bed, .int .i64 r.amount, .int .i64 r.cells, .int .i64 r.nozzle.X, .int .i64 r.nozzle.Y, .int .i64 r.speed, .bool r.has, .nils, .int .i64 r.code])])
  (fun l0 => hl [(0, .box 0 [.int .i64 r.settings.Pitch, .int .i64 r.settings.Height, .int .i64 r.settings.Walls, .int .i64 r.settings.Top, .int .i64 r.settings.Bottom, .int .i64 r.settings.Pattern, .int .i64 r.settings.Spacing, .bool r.settings.Support, .int .i64 r.settings.Reach, .int .i64 r.settings.Gap, .int .i64 r.settings.Brim, .int .i64 r.settings.Skirt, .int .i64 r.settings.Drop, .int .i64 r.settings.Feed, .int .i64 r.settings.Travel, .int .i64 r.settings.Retract, .int .i64 r.settings.MinTime, .int .i64 r.settings.MinFeed, .int .i64 r.settings.Nozzle, .int .i64 r.settings.Bed, .int .i64 r.amount, .int .i64 r.cells, .int .i64 r.nozzle.X, .int .i64 r.nozzle.Y, .int .i64 r.speed, .bool r.has, .arr 1000026 0 0 l0.l.length, .int .i64 r.code]), (1000026, .arr 0 8 55 (cellsE e_api_Cmd l0.l) false)]))) := by
 unfold t_emit_emitter_print at h
 simp only [e06, flen_nil] at h
 cases h1 : t_emit_emitter_moves (⟨p0.settings, p0.amount, p0.cells, p0.nozzle, p0.speed, p0.has, (FS.nil : (FS api_Cmd)), p0.code⟩ : emit_emitter) p1 with
 | none => (rw [h1] at h; cases h)
 | some v2 =>
  simp only [h1] at h
  obtain ⟨f3, e4⟩ := t_emit_emitter_moves_okN rfl h1
  simp only [e4] at f3
  try simp only [e4] at h
  try simp only [fset_len, encF_nil, fcase_nil, fcase_lst, fcase_fsnoc, fcase_fapp, fcase_fset, fcase_frep, fcase_flit, fcase_flst] at f3
  try simp only [fcase_nil, fcase_lst, fcase_fsnoc, fcase_fapp, fcase_fset, fcase_frep, fcase_flit, fcase_flst] at f3
  by_cases c5 : (bnot v2.1) = true
  · rw [if_pos c5] at h
    cases h
    refine FC_byref (lf := lf102) rfl rfl rfl ?_
    simp only [lf102, lc102]
    rcases tof v2.1 with a6 | a6
    · simp [a6] at c5
    · try simp only [a6] at f3
      simp (maxSteps := 4000000) [a6, e06, e4, f3]
  · rw [if_neg c5] at h
    rw [Bool.not_eq_true] at c5
    cases h8 : fget p1.Cells 0 with
    | none => (rw [h8] at h; cases h)
    | some v9 =>
     simp only [h8] at h
     have f7 := iaddr_F (e := e_api_Cell) h8
     by_cases c10 : (band (ieq v9.X v2.2.nozzle.X) (band (ieq v9.Y v2.2.nozzle.Y) true)) = true
     · rw [if_pos c10] at h
       cases h12 : t_emit_emitter_filament (⟨v2.2.settings, v2.2.amount, v2.2.cells, v2.2.nozzle, v2.2.speed, v2.2.has, (FS.nil : (FS api_Cmd)), v2.2.code⟩ : emit_emitter) 1 with
       | none => (rw [h12] at h; cases h)
       | some v13 =>
        simp only [h12] at h
        have f11 := t_emit_emitter_filament_ok h12
        try simp only [encF_nil] at f11
        cases h14 : t_emit_emitter_fast (⟨v2.2.settings, v2.2.amount, v2.2.cells, v2.2.nozzle, v2.2.speed, v2.2.has, (FS.nil : (FS api_Cmd)), v2.2.code⟩ : emit_emitter) (⟨1, 8, 0, 0, 0, v13, 0, 0⟩ : api_Cmd) (imul .i64 p1.Speed v2.2.settings.Pitch) with
        | none => (rw [h14] at h; cases h)
        | some v15 =>
         simp only [h14] at h
         obtain ⟨f16, e17⟩ := t_emit_emitter_fast_okN rfl h14
         simp only [e17] at f16
         try simp only [e17] at h
         try simp only [fset_len, encF_nil, fcase_nil, fcase_lst, fcase_fsnoc, fcase_fapp, fcase_fset, fcase_frep, fcase_flit, fcase_flst] at f16
         try simp only [fcase_nil, fcase_lst, fcase_fsnoc, fcase_fapp, fcase_fset, fcase_frep, fcase_flit, fcase_flst] at f16
         cases h18 : t_emit_emitter_add (⟨v15.2.settings, v15.2.amount, v15.2.cells, v15.2.nozzle, v15.2.speed, v15.2.has, (FS.nil : (FS api_Cmd)), v15.2.code⟩ : emit_emitter) v15.1 with
         | none => (rw [h18] at h; cases h)
         | some v19 =>
          simp only [h18] at h
          have f20 := t_emit_emitter_add_okN rfl h18
          try simp only [fset_len, encF_nil, fcase_nil, fcase_lst, fcase_fsnoc, fcase_fapp, fcase_fset, fcase_frep, fcase_flit, fcase_flst] at f20
          cases e22 : v19.out with
          | nil =>
           try simp only [e22, flen_nil] at h
           simp only [e22, flen_nil, fcase_nil, fcase_lst] at f20
           cases h24 : fsl p1.Cells 1 (flen p1.Cells) with
           | none => (rw [h24] at h; cases h)
           | some v25 =>
            simp only [h24] at h
            have f23 := slice_Flo (e := e_api_Cell) h24
            cases h27 : t_emit_turns v25 v19.nozzle with
            | none => (rw [h27] at h; cases h)
            | some v28 =>
             simp only [h27] at h
             have f26 := t_emit_turns_ok h27
             cases h76 : loopT (t_emit_emitter_print_L0 p1 (imul .i64 p1.Speed v2.2.settings.Pitch) 1 v28 (flen v28)) bigN ((⟨v19.settings, v19.amount, v19.cells, v19.nozzle, v19.speed, v19.has, (FS.nil : (FS api_Cmd)), v19.code⟩ : emit_emitter), 0) with
             | none => (rw [h76] at h; cases h)
             | some v77 =>
              simp only [h76] at h
              obtain ⟨f78, f78k⟩ := t_emit_emitter_print_L0_ok h76
              simp only [t_emit_emitter_print_L0_st, t_emit_emitter_print_L0_out, fset_len] at f78
              cases e80 : v77.out with
              | nil =>
               try simp only [e80, flen_nil] at h
               simp only [e80, flen_nil, fcase_nil, fcase_lst] at f78
               cases h82 : fget p1.Cells (isub .i64 (flen p1.Cells) 1) with
               | none => (rw [h82] at h; cases h)
               | some v83 =>
                simp only [h82] at h
                have f81 := iaddr_F (e := e_api_Cell) h82
                cases h
                refine FC_byref (lf := lf102) rfl rfl rfl ?_
                simp only [lf102, lc102]
                rcases tof v2.1 with a84 | a84
                · rcases tof (ieq v9.X v2.2.nozzle.X) with a85 | a85
                  · rcases tof (ieq v9.Y v2.2.nozzle.Y) with a86 | a86
                    · try simp only [a84, a85, a86] at f3 f11 f16 f20 f78
                      simp (maxSteps := 4000000) [a84, a85, a86, e06, e4, f3, f7, f11, e17, f16, f20, e22, f23, f26, f78, e80, f81]
                    · simp [a84, a85, a86] at c10
                  · simp [a84, a85] at c10
                · simp [a84] at c5
              | lst l79 =>
               try simp only [e80] at h
               simp only [e80, flen_nil, fcase_nil, fcase_lst] at f78
               cases h88 : fget p1.Cells (isub .i64 (flen p1.Cells) 1) with
               | none => (rw [h88] at h; cases h)
               | some v89 =>
                simp only [h88] at h
                have f87 := iaddr_F (e := e_api_Cell) h88
                cases h
                refine FC_byref (lf := lf102) rfl rfl rfl ?_
                simp only [lf102, lc102]
                rcases tof v2.1 with a90 | a90
                · rcases tof (ieq v9.X v2.2.nozzle.X) with a91 | a91
                  · rcases tof (ieq v9.Y v2.2.nozzle.Y) with a92 | a92
                    · try simp only [a90, a91, a92] at f3 f11 f16 f20 f78
                      simp (maxSteps := 4000000) [a90, a91, a92, e06, e4, f3, f7, f11, e17, f16, f20, e22, f23, f26, f78, e80, f87]
                    · simp [a90, a91, a92] at c10
                  · simp [a90, a91] at c10
                · simp [a90] at c5
          | lst l21 =>
           try simp only [e22] at h
           simp only [e22, flen_nil, fcase_nil, fcase_lst] at f20
           cases h94 : fsl p1.Cells 1 (flen p1.Cells) with
           | none => (rw [h94] at h; cases h)
           | some v95 =>
            simp only [h94] at h
            have f93 := slice_Flo (e := e_api_Cell) h94
            cases h97 : t_emit_turns v95 v19.nozzle with
            | none => (rw [h97] at h; cases h)
            | some v98 =>
             simp only [h97] at h
             have f96 := t_emit_turns_ok h97
             cases h99 : loopT (t_emit_emitter_print_L0 p1 (imul .i64 p1.Speed v2.2.settings.Pitch) 1 v98 (flen v98)) bigN ((⟨v19.settings, v19.amount, v19.cells, v19.nozzle, v19.speed, v19.has, (FS.lst l21), v19.code⟩ : emit_emitter), 0) with
             | none => (rw [h99] at h; cases h)
             | some v100 =>
              simp only [h99] at h
              obtain ⟨f101, f101k⟩ := t_emit_emitter_print_L0_ok h99
              simp only [t_emit_emitter_print_L0_st, t_emit_emitter_print_L0_out, fset_len] at f101
              cases e103 : v100.out with
              | nil =>
               obtain ⟨_, k⟩ := f101k ⟨_, rfl⟩
               exact (nl_ne (e103.symm.trans k)).elim
              | lst l102 =>
               try simp only [e103] at h
               simp only [e103, flen_nil, fcase_nil, fcase_lst] at f101
               cases h105 : fget p1.Cells (isub .i64 (flen p1.Cells) 1) with
               | none => (rw [h105] at h; cases h)
               | some v106 =>
                simp only [h105] at h
                have f104 := iaddr_F (e := e_api_Cell) h105
                cases h
                refine FC_byref (lf := lf102) rfl rfl rfl ?_
                simp only [lf102, lc102]
                rcases tof v2.1 with a107 | a107
                · rcases tof (ieq v9.X v2.2.nozzle.X) with a108 | a108
                  · rcases tof (ieq v9.Y v2.2.nozzle.Y) with a109 | a109
                    · try simp only [a107, a108, a109] at f3 f11 f16 f20 f101
                      simp (maxSteps := 4000000) [a107, a108, a109, e06, e4, f3, f7, f11, e17, f16, f20, e22, f93, f96, f101, e103, f104]
                    · simp [a107, a108, a109] at c10
                  · simp [a107, a108] at c10
                · simp [a107] at c5
     · rw [if_neg c10] at h
       rw [Bool.not_eq_true] at c10
       cases h111 : fsl p1.Cells 0 (flen p1.Cells) with
       | none => (rw [h111] at h; cases h)
       | some v112 =>
        simp only [h111] at h
        have f110 := slice_Flo (e := e_api_Cell) h111
        cases h114 : t_emit_turns v112 v2.2.nozzle with
        | none => (rw [h114] at h; cases h)
        | some v115 =>
         simp only [h114] at h
         have f113 := t_emit_turns_ok h114
         cases h116 : loopT (t_emit_emitter_print_L0 p1 (imul .i64 p1.Speed v2.2.settings.Pitch) 0 v115 (flen v115)) bigN ((⟨v2.2.settings, v2.2.amount, v2.2.cells, v2.2.nozzle, v2.2.speed, v2.2.has, (FS.nil : (FS api_Cmd)), v2.2.code⟩ : emit_emitter), 0) with
         | none => (rw [h116] at h; cases h)
         | some v117 =>
          simp only [h116] at h
          obtain ⟨f118, f118k⟩ := t_emit_emitter_print_L0_ok h116
          simp only [t_emit_emitter_print_L0_st, t_emit_emitter_print_L0_out, fset_len] at f118
          cases e120 : v117.out with
          | nil =>
           try simp only [e120, flen_nil] at h
           simp only [e120, flen_nil, fcase_nil, fcase_lst] at f118
           cases h122 : fget p1.Cells (isub .i64 (flen p1.Cells) 1) with
           | none => (rw [h122] at h; cases h)
           | some v123 =>
            simp only [h122] at h
            have f121 := iaddr_F (e := e_api_Cell) h122
            cases h
            refine FC_byref (lf := lf102) rfl rfl rfl ?_
            simp only [lf102, lc102]
            rcases tof v2.1 with a124 | a124
            · rcases tof (ieq v9.X v2.2.nozzle.X) with a125 | a125
              · rcases tof (ieq v9.Y v2.2.nozzle.Y) with a126 | a126
                · simp [a124, a125, a126] at c10
                · try simp only [a124, a125, a126] at f3 f118
                  simp (maxSteps := 4000000) [a124, a125, a126, e06, e4, f3, f7, f110, f113, f118, e120, f121]
              · try simp only [a124, a125] at f3 f118
                simp (maxSteps := 4000000) [a124, a125, e06, e4, f3, f7, f110, f113, f118, e120, f121]
            · simp [a124] at c5
          | lst l119 =>
           try simp only [e120] at h
           simp only [e120, flen_nil, fcase_nil, fcase_lst] at f118
           cases h128 : fget p1.Cells (isub .i64 (flen p1.Cells) 1) with
           | none => (rw [h128] at h; cases h)
           | some v129 =>
            simp only [h128] at h
            have f127 := iaddr_F (e := e_api_Cell) h128
            cases h
            refine FC_byref (lf := lf102) rfl rfl rfl ?_
            simp only [lf102, lc102]
            rcases tof v2.1 with a130 | a130
            · rcases tof (ieq v9.X v2.2.nozzle.X) with a131 | a131
              · rcases tof (ieq v9.Y v2.2.nozzle.Y) with a132 | a132
                · simp [a130, a131, a132] at c10
                · try simp only [a130, a131, a132] at f3 f118
                  simp (maxSteps := 4000000) [a130, a131, a132, e06, e4, f3, f7, f110, f113, f118, e120, f127]
              · try simp only [a130, a131] at f3 f118
                simp (maxSteps := 4000000) [a130, a131, e06, e4, f3, f7, f110, f113, f118, e120, f127]
            · simp [a130] at c5
theorem t_emit_emitter_print_okO {p0 : emit_emitter} {p1 : api_Op} {le06 : List api_Cmd} (e06 : p0.out = FS.lst le06) {r : emit_emitter} (h : t_emit_emitter_print p0 p1 = some r) : FC env 102 [.ptr 0 0 0, .agg [.int .i64 p1.Kind, .int .i64 p1.Role, .int .i64 p1.Layer, .int .i64 p1.Z, .int .i64 p1.Speed, encF e_api_Cell p1.Cells]] (some (hl [(0, .box 0 [.int .i64 p0.settings.Pitch, .int .i64 p0.settings.Height, .int .i64 p0.settings.Walls, .int .i64 p0.settings.Top, .int .i64 p0.settings.Bottom, .int .i64 p0.settings.Pattern, .int .i64 p0.settings.Spacing, .bool p0.settings.Support, .int .i64 p0.settings.Reach, .int .i64 p0.settings.Gap, .int .i64 p0.settings.Brim, .int .i64 p0.settings.Skirt, .int .i64 p0.settings.Drop, .int .i64 p0.settings.Feed, .int .i64 p0.settings.Travel, .int .i64 p0.settings.Retract, .int .i64 p0.settings.MinTime, .int .i64 p0.settings.MinFeed, .int .i64 p0.settings.Nozzle, .int .i64 p0.settings.Bed, .int .i64 p0.amount, .int .i64 p0.cells, .int .i64 p0.nozzle.X, .int .i64 p0.nozzle.Y, .int .i64 p0.speed, .bool p0.has, .arr 1000026 0 0 p0.out.l.length, .int .i64 p0.code]), (1000026, .arr 0 8 55 (cellsE e_api_Cmd p0.out.l) false)], 0)) = some (.tup [], hl [(0, .box 0 [.int .i64 r.settings.Pitch, .int .i64 r.settings.Height, .int .i64 r.settings.Walls, .int .i64 r.settings.Top, .int .i64 r.settings.Bottom, .int .i64 r.settings.Pattern, .int .i64 r.settings.Spacing, .bool r.settings.Support, .int .i64 r.settings.Reach, .int .i64 r.settings.Gap, .int .i64 r.settings.Brim, .int .i64 r.settings.Skirt, .int .i64 r.settings.Drop, .int .i64 r.settings.Feed, .int .i64 r.settings.Travel, .int .i64 r.settings.Retract, .int .i64 r.settings.MinTime, .int .i64 r.settings.MinFeed, .int .i64 r.settings.Nozzle, .int .i64 r.settings.Bed, .int .i64 r.amount, .int .i64 r.cells, .int .i64 r.nozzle.X, .int .i64 r.nozzle.Y, .int .i64 r.speed, .bool r.has, .arr 1000026 0 0 r.out.l.length, .int .i64 r.code]), (1000026, .arr 0 8 55 (cellsE e_api_Cmd r.out.l) false)]) ∧ ∃ l, r.out = FS.lst l := by
 unfold t_emit_emitter_print at h
 simp only [e06, flen_nil] at h
 cases h1 : t_emit_emitter_moves (⟨p0.settings, p0.amount, p0.cells, p0.nozzle, p0.speed, p0.has, (FS.lst le06), p0.code⟩ : emit_emitter) p1 with
 | none => (rw [h1] at h; cases h)
 | some v2 =>
  simp only [h1] at h
  obtain ⟨f3, ⟨l5, e4⟩⟩ := t_emit_emitter_moves_okO rfl h1
  simp only [e4] at f3
  try simp only [e4] at h
  try simp only [fset_len, encF_nil, fcase_nil, fcase_lst, fcase_fsnoc, fcase_fapp, fcase_fset, fcase_frep, fcase_flit, fcase_flst] at f3
  try simp only [fcase_nil, fcase_lst, fcase_fsnoc, fcase_fapp, fcase_fset, fcase_frep, fcase_flit, fcase_flst] at f3
  by_cases c6 : (bnot v2.1) = true
  · rw [if_pos c6] at h
    cases h
    refine ⟨?_, by first | exact ⟨_, rfl⟩ | exact ⟨_, by assumption⟩⟩
    refine FC_byref (lf := lf102) rfl rfl rfl ?_
    simp only [lf102, lc102]
    rcases tof v2.1 with a7 | a7
    · simp [a7] at c6
    · try simp only [a7] at f3
      simp (maxSteps := 4000000) [a7, e06, e4, f3]
  · rw [if_neg c6] at h
    rw [Bool.not_eq_true] at c6
    cases h9 : fget p1.Cells 0 with
    | none => (rw [h9] at h; cases h)
    | some v10 =>
     simp only [h9] at h
     have f8 := iaddr_F (e := e_api_Cell) h9
     by_cases c11 : (band (ieq v10.X v2.2.nozzle.X) (band (ieq v10.Y v2.2.nozzle.Y) true)) = true
     · rw [if_pos c11] at h
       cases h13 : t_emit_emitter_filament (⟨v2.2.settings, v2.2.amount, v2.2.cells, v2.2.nozzle, v2.2.speed, v2.2.has, (FS.lst l5), v2.2.code⟩ : emit_emitter) 1 with
       | none => (rw [h13] at h; cases h)
       | some v14 =>
        simp only [h13] at h
        have f12 := t_emit_emitter_filament_ok h13
        cases h15 : t_emit_emitter_fast (⟨v2.2.settings, v2.2.amount, v2.2.cells, v2.2.nozzle, v2.2.speed, v2.2.has, (FS.lst l5), v2.2.code⟩ : emit_emitter) (⟨1, 8, 0, 0, 0, v14, 0, 0⟩ : api_Cmd) (imul .i64 p1.Speed v2.2.settings.Pitch) with
        | none => (rw [h15] at h; cases h)
        | some v16 =>
         simp only [h15] at h
         obtain ⟨f17, ⟨l19, e18⟩⟩ := t_emit_emitter_fast_okO rfl h15
         simp only [e18] at f17
         try simp only [e18] at h
         try simp only [fset_len, encF_nil, fcase_nil, fcase_lst, fcase_fsnoc, fcase_fapp, fcase_fset, fcase_frep, fcase_flit, fcase_flst] at f17
         try simp only [fcase_nil, fcase_lst, fcase_fsnoc, fcase_fapp, fcase_fset, fcase_frep, fcase_flit, fcase_flst] at f17
         cases h20 : t_emit_emitter_add (⟨v16.2.settings, v16.2.amount, v16.2.cells, v16.2.nozzle, v16.2.speed, v16.2.has, (FS.lst l19), v16.2.code⟩ : emit_emitter) v16.1 with
         | none => (rw [h20] at h; cases h)
         | some v21 =>
          simp only [h20] at h
          obtain ⟨f22, ⟨l24, e23⟩⟩ := t_emit_emitter_add_okO rfl h20
          simp only [e23] at f22
          try simp only [e23] at h
          try simp only [fset_len, encF_nil, fcase_nil, fcase_lst, fcase_fsnoc, fcase_fapp, fcase_fset, fcase_frep, fcase_flit, fcase_flst] at f22
          try simp only [fcase_nil, fcase_lst, fcase_fsnoc, fcase_fapp, fcase_fset, fcase_frep, fcase_flit, fcase_flst] at f22
          cases h26 : fsl p1.Cells 1 (flen p1.Cells) with
          | none => (rw [h26] at h; cases h)
          | some v27 =>
           simp only [h26] at h
           have f25 := slice_Flo (e := e_api_Cell) h26
           cases h29 : t_emit_turns v27 v21.nozzle with
           | none => (rw [h29] at h; cases h)
           | some v30 =>
            simp only [h29] at h
            have f28 := t_emit_turns_ok h29
            cases h31 : loopT (t_emit_emitter_print_L0 p1 (imul .i64 p1.Speed v2.2.settings.Pitch) 1 v30 (flen v30)) bigN ((⟨v21.settings, v21.amount, v21.cells, v21.nozzle, v21.speed, v21.has, (FS.lst l24), v21.code⟩ : emit_emitter), 0) with
            | none => (rw [h31] at h; cases h)
            | some v32 =>
             simp only [h31] at h
             obtain ⟨f33, f33k⟩ := t_emit_emitter_print_L0_ok h31
             simp only [t_emit_emitter_print_L0_st, t_emit_emitter_print_L0_out, fset_len] at f33
             cases e35 : v32.out with
             | nil =>
              obtain ⟨_, k⟩ := f33k ⟨_, rfl⟩
              exact (nl_ne (e35.symm.trans k)).elim
             | lst l34 =>
              try simp only [e35] at h
              simp only [e35, flen_nil, fcase_nil, fcase_lst] at f33
              cases h37 : fget p1.Cells (isub .i64 (flen p1.Cells) 1) with
              | none => (rw [h37] at h; cases h)
              | some v38 =>
               simp only [h37] at h
               have f36 := iaddr_F (e := e_api_Cell) h37
               cases h
               refine ⟨?_, by first | exact ⟨_, rfl⟩ | exact ⟨_, by assumption⟩⟩
               refine FC_byref (lf := lf102) rfl rfl rfl ?_
               simp only [lf102, lc102]
               rcases tof v2.1 with a39 | a39
               · rcases tof (ieq v10.X v2.2.nozzle.X) with a40 | a40
                 · rcases tof (ieq v10.Y v2.2.nozzle.Y) with a41 | a41
                   · try simp only [a39, a40, a41] at f3 f12 f17 f22 f33
                     simp (maxSteps := 4000000) [a39, a40, a41, e06, e4, f3, f8, snap_rowD (e := e_api_Cmd) (el := 55) (fz := false), f12, e18, f17, e23, f22, f25, f28, f33, e35, f36]
                   · simp [a39, a40, a41] at c11
                 · simp [a39, a40] at c11
               · simp [a39] at c6
     · rw [if_neg c11] at h
       rw [Bool.not_eq_true] at c11
       cases h43 : fsl p1.Cells 0 (flen p1.Cells) with
       | none => (rw [h43] at h; cases h)
       | some v44 =>
        simp only [h43] at h
        have f42 := slice_Flo (e := e_api_Cell) h43
        cases h46 : t_emit_turns v44 v2.2.nozzle with
        | none => (rw [h46] at h; cases h)
        | some v47 =>
         simp only [h46] at h
         have f45 := t_emit_turns_ok h46
         cases h48 : loopT (t_emit_emitter_print_L0 p1 (imul .i64 p1.Speed v2.2.settings.Pitch) 0 v47 (flen v47)) bigN ((⟨v2.2.settings, v2.2.amount, v2.2.cells, v2.2.nozzle, v2.2.speed, v2.2.has, (FS.lst l5), v2.2.code⟩ : emit_emitter), 0) with
         | none => (rw [h48] at h; cases h)
         | some v49 =>
          simp only [h48] at h
          obtain ⟨f50, f50k⟩ := t_emit_emitter_print_L0_ok h48
          simp only [t_emit_emitter_print_L0_st, t_emit_emitter_print_L0_out, fset_len] at f50
          cases e52 : v49.out with
          | nil =>
           obtain ⟨_, k⟩ := f50k ⟨_, rfl⟩
           exact (nl_ne (e52.symm.trans k)).elim
          | lst l51 =>
           try simp only [e52] at h
           simp only [e52, flen_nil, fcase_nil, fcase_lst] at f50
           cases h54 : fget p1.Cells (isub .i64 (flen p1.Cells) 1) with
           | none => (rw [h54] at h; cases h)
           | some v55 =>
            simp only [h54] at h
            have f53 := iaddr_F (e := e_api_Cell) h54
            cases h
            refine ⟨?_, by first | exact ⟨_, rfl⟩ | exact ⟨_, by assumption⟩⟩
            refine FC_byref (lf := lf102) rfl rfl rfl ?_
            simp only [lf102, lc102]
            rcases tof v2.1 with a56 | a56
            · rcases tof (ieq v10.X v2.2.nozzle.X) with a57 | a57
              · rcases tof (ieq v10.Y v2.2.nozzle.Y) with a58 | a58
                · simp [a56, a57, a58] at c11
                · try simp only [a56, a57, a58] at f3 f50
                  simp (maxSteps := 4000000) [a56, a57, a58, e06, e4, f3, f8, f42, f45, f50, e52, f53]
              · try simp only [a56, a57] at f3 f50
                simp (maxSteps := 4000000) [a56, a57, e06, e4, f3, f8, f42, f45, f50, e52, f53]
            · simp [a56] at c6

/-! emit.emitter).travel -/
attribute [simp] c101_0 c101_1 c101_2 c101_3 c101_4 c101_5 c101_6 c101_8
theorem c101_L0_u (Γ : Env) (ps : List Nat) (σ : St) : EC Γ ps 0 c101_L0 σ = EC Γ ps 0 (.seq (.reg false c101_3) (.seq (.cond (.t 19) .skip (.seq (.trim [0, 3]) (.exit 0))) (.seq (.blk 1 (.seq (.reg false c101_4) (.reg true c101_5))) (.reg false c101_6)))) σ := rfl
attribute [simp ↓] c101_L0_u
def t_emit_emitter_travel_L0 (k0 : api_Op) (k1 : (FS Int)) (k2 : Int) (s : (emit_emitter × Int)) : Option (LR (emit_emitter × Int) emit_emitter) := match s with
 | (s0, s1) => (if (ilt s1 k2) = true then (match fget k1 s1 with
 | none => none
 | some v11 => (match fget k0.Cells v11 with
 | none => none
 | some v14 => (match t_emit_emitter_to (⟨s0.settings, s0.amount, s0.cells, s0.nozzle, s0.speed, s0.has, s0.out, s0.code⟩ : emit_emitter) 0 v14 with
 | none => none
 | some v17 => (match t_emit_emitter_fast (⟨s0.settings, s0.amount, s0.cells, s0.nozzle, s0.speed, s0.has, s0.out, s0.code⟩ : emit_emitter) v17 (imul .i64 k0.Speed s0.settings.Pitch) with
 | none => none
 | some v19 => (match t_emit_emitter_add (⟨v19.2.settings, v19.2.amount, v19.2.cells, v19.2.nozzle, v19.2.speed, v19.2.has, v19.2.out, v19.2.code⟩ : emit_emitter) v19.1 with
 | none => none
 | some v22 => some (.nx ((⟨v22.settings, v22.amount, v22.cells, v22.nozzle, v22.speed, v22.has, v22.out, v22.code⟩ : emit_emitter), (iadd .i64 s1 1))))))))
 else some (.dn (⟨s0.settings, s0.amount, s0.cells, s0.nozzle, s0.speed, s0.has, s0.out, s0.code⟩ : emit_emitter)))
def t_emit_emitter_travel_L0_st (k0 : api_Op) (k1 : (FS Int)) (k2 : Int) (s : (emit_emitter × Int)) : St := match s with
 | (s0, s1) => (fcase s0.out (⟨fr [(0, .ptr 0 0 0), (3, .ptr 3 0 0), (16, encF e_i64 k1), (17, .int .i64 k2), (18, .int .i64 s1)], hl [(0, .box 0 [.int .i64 s0.settings.Pitch, .int .i64 s0.settings.Height, .int .i64 s0.settings.Walls, .int .i64 s0.settings.Top, .int .i64 s0.settings.Bottom, .int .i64 s0.settings.Pattern, .int .i64 s0.settings.Spacing, .bool s0.settings.Support, .int .i64 s0.settings.Reach, .int .i64 s0.settings.Gap, .int .i64 s0.settings.Brim, .int .i64 s0.settings.Skirt, .int .i64 s0.settings.Drop, .int .i64 s0.settings.Feed, .int .i64 s0.settings.Travel, .int .i64 s0.settings.Retract, .int .i64 s0.settings.MinTime, .int .i64 s0.settings.MinFeed, .int .i64 s0.settings.Nozzle, .int .i64 s0.settings.Bed, .int .i64 s0.amount, .int .i64 s0.cells, .int .i64 s0.nozzle.X, .int .i64 s0.nozzle.Y, .int .i64 s0.speed, .bool s0.has, .nils, .int .i64 s0.code]), (3, .box 0 [.int .i64 k0.Kind, .int .i64 k0.Role, .int .i64 k0.Layer, .int .i64 k0.Z, .int .i64 k0.Speed, encF e_api_Cell k0.Cells])]⟩)
  (fun l0 => ⟨fr [(0, .ptr 0 0 0), (3, .ptr 3 0 0), (16, encF e_i64 k1), (17, .int .i64 k2), (18, .int .i64 s1)], hl [(0, .box 0 [.int .i64 s0.settings.Pitch, .int .i64 s0.settings.Height, .int .i64 s0.settings.Walls, .int .i64 s0.settings.Top, .int .i64 s0.settings.Bottom, .int .i64 s0.settings.Pattern, .int .i64 s0.settings.Spacing, .bool s0.settings.Support, .int .i64 s0.settings.Reach, .int .i64 s0.settings.Gap, .int .i64 s0.settings.Brim, .int .i64 s0.settings.Skirt, .int .i64 s0.settings.Drop, .int .i64 s0.settings.Feed, .int .i64 s0.settings.Travel, .int .i64 s0.settings.Retract, .int .i64 s0.settings.MinTime, .int .i64 s0.settings.MinFeed, .int .i64 s0.settings.Nozzle, .int .i64 s0.settings.Bed, .int .i64 s0.amount, .int .i64 s0.cells, .int .i64 s0.nozzle.X, .int .i64 s0.nozzle.Y, .int .i64 s0.speed, .bool s0.has, .arr 1000026 0 0 l0.l.length, .int .i64 s0.code]), (1000026, .arr 0 8 55 (cellsE e_api_Cmd l0.l) false), (3, .box 0 [.int .i64 k0.Kind, .int .i64 k0.Role, .int .i64 k0.Layer, .int .i64 k0.Z, .int .i64 k0.Speed, encF e_api_Cell k0.Cells])]⟩))
def t_emit_emitter_travel_L0_out (k0 : api_Op) (k1 : (FS Int)) (k2 : Int) (x : emit_emitter) : LE × St := (fcase x.out (.exit 0, ⟨fr [(0, .ptr 0 0 0), (3, .ptr 3 0 0)], hl [(0, .box 0 [.int .i64 x.settings.Pitch, .int .i64 x.settings.Height, .int .i64 x.settings.Walls, .int .i64 x.settings.Top, .int .i64 x.settings.Bottom, .int .i64 x.settings.Pattern, .int .i64 x.settings.Spacing, .bool x.settings.Support, .int .i64 x.settings.Reach, .int .i64 x.settings.Gap, .int .i64 x.settings.Brim, .int .i64 x.settings.Skirt, .int .i64 x.settings.Drop, .int .i64 x.settings.Feed, .int .i64 x.settings.Travel, .int .i64 x.settings.Retract, .int .i64 x.settings.MinTime, .int .i64 x.settings.MinFeed, .int .i64 x.settings.Nozzle, .int .i64 x.settings.Bed, .int .i64 x.amount, .int .i64 x.cells, .int .i64 x.nozzle.X, .int .i64 x.nozzle.Y, .int .i64 x.speed, .bool x.has, .nils, .int .i64 x.code]), (3, .box 0 [.int .i64 k0.Kind, .int .i64 k0.Role, .int .i64 k0.Layer, .int .i64 k0.Z, .int .i64 k0.Speed, encF e_api_Cell k0.Cells])]⟩)
  (fun l0 => (.exit 0, ⟨fr [(0, .ptr 0 0 0), (3, .ptr 3 0 0)], hl [(0, .box 0 [.int .i64 x.settings.Pitch, .int .i64 x.settings.Height, .int .i64 x.settings.Walls, .int .i64 x.settings.Top, .int .i64 x.settings.Bottom, .int .i64 x.settings.Pattern, .int .i64 x.settings.Spacing, .bool x.settings.Support, .int .i64 x.settings.Reach, .int .i64 x.settings.Gap, .int .i64 x.settings.Brim, .int .i64 x.settings.Skirt, .int .i64 x.settings.Drop, .int .i64 x.settings.Feed, .int .i64 x.settings.Travel, .int .i64 x.settings.Retract, .int .i64 x.settings.MinTime, .int .i64 x.settings.MinFeed, .int .i64 x.settings.Nozzle, .int .i64 x.settings.Bed, .int .i64 x.amount, .int .i64 x.cells, .int .i64 x.nozzle.X, .int .i64 x.nozzle.Y, .int .i64 x.speed, .bool x.has, .arr 1000026 0 0 l0.l.length, .int .i64 x.code]), (1000026, .arr 0 8 55 (cellsE e_api_Cmd l0.l) false), (3, .box 0 [.int .i64 k0.Kind, .int .i64 k0.Role, .int .i64 k0.Layer, .int .i64 k0.Z, .int .i64 k0.Speed, encF e_api_Cell k0.Cells])]⟩)))
theorem t_emit_emitter_travel_L0_ok {k0 : api_Op} {k1 : (FS Int)} {k2 : Int} {s : (emit_emitter × Int)} {r : emit_emitter} (h : loopT (t_emit_emitter_travel_L0 k0 k1 k2) bigN s = some r) : LK env [0] 0 [0, 3, 16, 17, 18] c101_L0 (some (t_emit_emitter_travel_L0_st k0 k1 k2 s)) = some (t_emit_emitter_travel_L0_out k0 k1 k2 r) ∧ (Lst s.1.out → Lst r.out) := loop_walkK (P := fun s => Lst s.1.out) (Q := fun r => Lst r.out) (st := t_emit_emitter_travel_L0_st k0 k1 k2) (out := t_emit_emitter_travel_L0_out k0 k1 k2) (by
 clear h s r
 rintro ⟨s0, s1⟩ x h
 simp only [t_emit_emitter_travel_L0] at h
 cases e11 : s0.out with
 | nil =>
  try simp only [e11, flen_nil] at h
  by_cases c12 : (ilt s1 k2) = true
  · rw [if_pos c12] at h
    cases h14 : fget k1 s1 with
    | none => (rw [h14] at h; cases h)
    | some v15 =>
     simp only [h14] at h
     have f13 := iaddr_F (e := e_i64) h14
     cases h17 : fget k0.Cells v15 with
     | none => (rw [h17] at h; cases h)
     | some v18 =>
      simp only [h17] at h
      have f16 := iaddr_F (e := e_api_Cell) h17
      cases h20 : t_emit_emitter_to (⟨s0.settings, s0.amount, s0.cells, s0.nozzle, s0.speed, s0.has, (FS.nil : (FS api_Cmd)), s0.code⟩ : emit_emitter) 0 v18 with
      | none => (rw [h20] at h; cases h)
      | some v21 =>
       simp only [h20] at h
       have f19 := t_emit_emitter_to_ok h20
       try simp only [encF_nil] at f19
       cases h22 : t_emit_emitter_fast (⟨s0.settings, s0.amount, s0.cells, s0.nozzle, s0.speed, s0.has, (FS.nil : (FS api_Cmd)), s0.code⟩ : emit_emitter) v21 (imul .i64 k0.Speed s0.settings.Pitch) with
       | none => (rw [h22] at h; cases h)
       | some v23 =>
        simp only [h22] at h
        obtain ⟨f24, e25⟩ := t_emit_emitter_fast_okN rfl h22
        simp only [e25] at f24
        try simp only [e25] at h
        try simp only [fset_len, encF_nil, fcase_nil, fcase_lst, fcase_fsnoc, fcase_fapp, fcase_fset, fcase_frep, fcase_flit, fcase_flst] at f24
        try simp only [fcase_nil, fcase_lst, fcase_fsnoc, fcase_fapp, fcase_fset, fcase_frep, fcase_flit, fcase_flst] at f24
        cases h26 : t_emit_emitter_add (⟨v23.2.settings, v23.2.amount, v23.2.cells, v23.2.nozzle, v23.2.speed, v23.2.has, (FS.nil : (FS api_Cmd)), v23.2.code⟩ : emit_emitter) v23.1 with
        | none => (rw [h26] at h; cases h)
        | some v27 =>
         simp only [h26] at h
         have f28 := t_emit_emitter_add_okN rfl h26
         try simp only [fset_len, encF_nil, fcase_nil, fcase_lst, fcase_fsnoc, fcase_fapp, fcase_fset, fcase_frep, fcase_flit, fcase_flst] at f28
         cases e30 : v27.out with
         | nil =>
          try simp only [e30, flen_nil] at h
          simp only [e30, flen_nil, fcase_nil, fcase_lst] at f28
          cases h
          refine ⟨?_, fun k => ?_⟩
          · show LK env [0] 0 [0, 3, 16, 17, 18] c101_L0 (some (t_emit_emitter_travel_L0_st _ _ _ _)) = LK env [0] 0 [0, 3, 16, 17, 18] c101_L0 (some (t_emit_emitter_travel_L0_st _ _ _ _))
            simp only [t_emit_emitter_travel_L0_st, e11]
            rw [LK_step]
            try simp only [c12] at f19 f24 f28
            simp (maxSteps := 4000000) [c12, e11, f13, f16, f19, e25, f24, f28, e30]
          · obtain ⟨_, k⟩ := k
            first | exact (nl_ne k).elim | exact (nl_ne (e11.symm.trans k)).elim
         | lst l29 =>
          try simp only [e30] at h
          simp only [e30, flen_nil, fcase_nil, fcase_lst] at f28
          cases h
          refine ⟨?_, fun k => ?_⟩
          · show LK env [0] 0 [0, 3, 16, 17, 18] c101_L0 (some (t_emit_emitter_travel_L0_st _ _ _ _)) = LK env [0] 0 [0, 3, 16, 17, 18] c101_L0 (some (t_emit_emitter_travel_L0_st _ _ _ _))
            simp only [t_emit_emitter_travel_L0_st, e11]
            rw [LK_step]
            try simp only [c12] at f19 f24 f28
            simp (maxSteps := 4000000) [c12, e11, f13, f16, f19, e25, f24, f28, e30]
          · obtain ⟨_, k⟩ := k
            first | exact (nl_ne k).elim | exact (nl_ne (e11.symm.trans k)).elim
  · rw [if_neg c12] at h
    rw [Bool.not_eq_true] at c12
    cases h
    refine ⟨?_, fun k => ?_⟩
    · show LK env [0] 0 [0, 3, 16, 17, 18] c101_L0 (some (t_emit_emitter_travel_L0_st _ _ _ _)) = some (t_emit_emitter_travel_L0_out _ _ _ _)
      simp only [t_emit_emitter_travel_L0_st, t_emit_emitter_travel_L0_out, e11]
      rw [LK_step]
      simp (maxSteps := 4000000) [c12, e11]
    · obtain ⟨_, k⟩ := k
      first | exact (nl_ne k).elim | exact (nl_ne (e11.symm.trans k)).elim
 | lst l10 =>
  try simp only [e11] at h
  by_cases c31 : (ilt s1 k2) = true
  · rw [if_pos c31] at h
    cases h33 : fget k1 s1 with
    | none => (rw [h33] at h; cases h)
    | some v34 =>
     simp only [h33] at h
     have f32 := iaddr_F (e := e_i64) h33
     cases h36 : fget k0.Cells v34 with
     | none => (rw [h36] at h; cases h)
     | some v37 =>
      simp only [h36] at h
      have f35 := iaddr_F (e := e_api_Cell) h36
      cases h39 : t_emit_emitter_to (⟨s0.settings, s0.amount, s0.cells, s0.nozzle, s0.speed, s0.has, (FS.lst l10), s0.code⟩ : emit_emitter) 0 v37 with
      | none => (rw [h39] at h; cases h)
      | some v40 =>
       simp only [h39] at h
       have f38 := t_emit_emitter_to_ok h39
       cases h41 : t_emit_emitter_fast (⟨s0.settings, s0.amount, s0.cells, s0.nozzle, s0.speed, s0.has, (FS.lst l10), s0.code⟩ : emit_emitter) v40 (imul .i64 k0.Speed s0.settings.Pitch) with
       | none => (rw [h41] at h; cases h)
       | some v42 =>
        simp only [h41] at h
        obtain ⟨f43, ⟨l45, e44⟩⟩ := t_emit_emitter_fast_okO rfl h41
        simp only [e44] at f43
        try simp only [e44] at h
        try simp only [fset_len, encF_nil, fcase_nil, fcase_lst, fcase_fsnoc, fcase_fapp, fcase_fset, fcase_frep, fcase_flit, fcase_flst] at f43
        try simp only [fcase_nil, fcase_lst, fcase_fsnoc, fcase_fapp, fcase_fset, fcase_frep, fcase_flit, fcase_flst] at f43
        cases h46 : t_emit_emitter_add (⟨v42.2.settings, v42.2.amount, v42.2.cells, v42.2.nozzle, v42.2.speed, v42.2.has, (FS.lst l45), v42.2.code⟩ : emit_emitter) v42.1 with
        | none => (rw [h46] at h; cases h)
        | some v47 =>
         simp only [h46] at h
         obtain ⟨f48, ⟨l50, e49⟩⟩ := t_emit_emitter_add_okO rfl h46
         simp only [e49] at f48
         try simp only [e49] at h
         try simp only [fset_len, encF_nil, fcase_nil, fcase_lst, fcase_fsnoc, fcase_fapp, fcase_fset, fcase_frep, fcase_flit, fcase_flst] at f48
         try simp only [fcase_nil, fcase_lst, fcase_fsnoc, fcase_fapp, fcase_fset, fcase_frep, fcase_flit, fcase_flst] at f48
         cases h
         refine ⟨?_, fun k => ?_⟩
         · show LK env [0] 0 [0, 3, 16, 17, 18] c101_L0 (some (t_emit_emitter_travel_L0_st _ _ _ _)) = LK env [0] 0 [0, 3, 16, 17, 18] c101_L0 (some (t_emit_emitter_travel_L0_st _ _ _ _))
           simp only [t_emit_emitter_travel_L0_st, e11]
           rw [LK_step]
           try simp only [c31] at f38 f43 f48
           simp (maxSteps := 4000000) [c31, e11, f32, f35, snap_rowD (e := e_api_Cmd) (el := 55) (fz := false), f38, e44, f43, e49, f48]
         · first | exact ⟨_, rfl⟩ | exact ⟨_, by assumption⟩
  · rw [if_neg c31] at h
    rw [Bool.not_eq_true] at c31
    cases h
    refine ⟨?_, fun k => ?_⟩
    · show LK env [0] 0 [0, 3, 16, 17, 18] c101_L0 (some (t_emit_emitter_travel_L0_st _ _ _ _)) = some (t_emit_emitter_travel_L0_out _ _ _ _)
      simp only [t_emit_emitter_travel_L0_st, t_emit_emitter_travel_L0_out, e11]
      rw [LK_step]
      simp (maxSteps := 4000000) [c31, e11]
    · first | exact ⟨_, rfl⟩ | exact ⟨_, by assumption⟩) bigN s r h
def t_emit_emitter_travel (p0 : emit_emitter) (p1 : api_Op) : Option emit_emitter := (match t_emit_emitter_moves (⟨p0.settings, p0.amount, p0.cells, p0.nozzle, p0.speed, p0.has, p0.out, p0.code⟩ : emit_emitter) p1 with
 | none => none
 | some v2 => (if (bnot v2.1) = true then some (⟨v2.2.settings, v2.2.amount, v2.2.cells, v2.2.nozzle, v2.2.speed, v2.2.has, v2.2.out, v2.2.code⟩ : emit_emitter)
 else (match t_emit_turns p1.Cells v2.2.nozzle with
 | none => none
 | some v7 => (match loopT (t_emit_emitter_travel_L0 p1 v7 (flen v7)) bigN ((⟨v2.2.settings, v2.2.amount, v2.2.cells, v2.2.nozzle, v2.2.speed, v2.2.has, v2.2.out, v2.2.code⟩ : emit_emitter), 0) with
 | none => none
 | some v25 => (match fget p1.Cells (isub .i64 (flen p1.Cells) 1) with
 | none => none
 | some v29 => some (⟨v25.settings, v25.amount, v25.cells, v29, v25.speed, v25.has, v25.out, v25.code⟩ : emit_emitter))))))
theorem t_emit_emitter_travel_okN {p0 : emit_emitter} {p1 : api_Op} (e06 : p0.out = FS.nil) {r : emit_emitter} (h : t_emit_emitter_travel p0 p1 = some r) : FC env 101 [.ptr 0 0 0, .agg [.int .i64 p1.Kind, .int .i64 p1.Role, .int .i64 p1.Layer, .int .i64 p1.Z, .int .i64 p1.Speed, encF e_api_Cell p1.Cells]] (some (hl [(0, .box 0 [.int .i64 p0.settings.Pitch, .int .i64 p0.settings.Height, .int .i64 p0.settings.Walls, .int .i64 p0.settings.Top, .int .i64 p0.settings.Bottom, .int .i64 p0.settings.Pattern, .int .i64 p0.settings.Spacing, .bool p0.settings.Support, .int .i64 p0.settings.Reach, .int .i64 p0.settings.Gap, .int .i64 p0.settings.Brim, .int .i64 p0.settings.Skirt, .int .i64 p0.settings.Drop, .int .i64 p0.settings.Feed, .int .i64 p0.settings.Travel, .int .i64 p0.settings.Retract, .int .i64 p0.settings.MinTime, .int .i64 p0.settings.MinFeed, .int .i64 p0.settings.Nozzle, .int .i64 p0.settings.Bed, .int .i64 p0.amount, .int .i64 p0.cells, .int .i64 p0.nozzle.X, .int .i64 p0.nozzle.Y, .int .i64 p0.speed, .bool p0.has, .nils, .int .i64 p0.code])], 0)) = some (.tup [], (fcase r.out (hl [(0, .box 0 [.int .i64 r.settings.Pitch, .int .i64 r.settings.Height, .int .i64 r.settings.Walls, .int .i64 r.settings.Top, .int .i64 r.settings.Bottom, .int .i64 r.settings.Pattern, .int .i64 r.settings.Spacing, .bool r.settings.Support, .int .i64 r.settings.Reach, .int .i64 r.settings.Gap, .int .i64 r.settings.Brim, .int .i64 r.settings.Skirt, .int .i64 r.settings.Drop, .int .i64 r.settings.Feed, .int .i64 r.settings.Travel, .int .i64 r.settings.Retract, .int .i64 r.settings.MinTime, .int .i64 r.settings.MinFeed, .int .i64 r.settings.Nozzle, .int .i64 r.settings.Bed, .int .i64 r.amount, .int .i64 r.cells, .int .i64 r.nozzle.X, .int .i64 r.nozzle.Y, .int .i64 r.speed, .bool r.has, .nils, .int .i64 r.code])])
  (fun l0 => hl [(0, .box 0 [.int .i64 r.settings.Pitch, .int .i64 r.settings.Height, .int .i64 r.settings.Walls, .int .i64 r.settings.Top, .int .i64 r.settings.Bottom, .int .i64 r.settings.Pattern, .int .i64 r.settings.Spacing, .bool r.settings.Support, .int .i64 r.settings.Reach, .int .i64 r.settings.Gap, .int .i64 r.settings.Brim, .int .i64 r.settings.Skirt, .int .i64 r.settings.Drop, .int .i64 r.settings.Feed, .int .i64 r.settings.Travel, .int .i64 r.settings.Retract, .int .i64 r.settings.MinTime, .int .i64 r.settings.MinFeed, .int .i64 r.settings.Nozzle, .int .i64 r.settings.Bed, .int .i64 r.amount, .int .i64 r.cells, .int .i64 r.nozzle.X, .int .i64 r.nozzle.Y, .int .i64 r.speed, .bool r.has, .arr 1000026 0 0 l0.l.length, .int .i64 r.code]), (1000026, .arr 0 8 55 (cellsE e_api_Cmd l0.l) false)]))) := by
 unfold t_emit_emitter_travel at h
 simp only [e06, flen_nil] at h
 cases h1 : t_emit_emitter_moves (⟨p0.settings, p0.amount, p0.cells, p0.nozzle, p0.speed, p0.has, (FS.nil : (FS api_Cmd)), p0.code⟩ : emit_emitter) p1 with
 | none => (rw [h1] at h; cases h)
 | some v2 =>
  simp only [h1] at h
  obtain ⟨f3, e4⟩ := t_emit_emitter_moves_okN rfl h1
  simp only [e4] at f3
  try simp only [e4] at h
  try simp only [fset_len, encF_nil, fcase_nil, fcase_lst, fcase_fsnoc, fcase_fapp, fcase_fset, fcase_frep, fcase_flit, fcase_flst] at f3
  try simp only [fcase_nil, fcase_lst, fcase_fsnoc, fcase_fapp, fcase_fset, fcase_frep, fcase_flit, fcase_flst] at f3
  by_cases c5 : (bnot v2.1) = true
  · rw [if_pos c5] at h
    cases h
    refine FC_byref (lf := lf101) rfl rfl rfl ?_
    simp only [lf101, lc101]
    rcases tof v2.1 with a6 | a6
    · simp [a6] at c5
    · try simp only [a6] at f3
      simp (maxSteps := 4000000) [a6, e06, e4, f3]
  · rw [if_neg c5] at h
    rw [Bool.not_eq_true] at c5
    cases h8 : t_emit_turns p1.Cells v2.2.nozzle with
    | none => (rw [h8] at h; cases h)
    | some v9 =>
     simp only [h8] at h
     have f7 := t_emit_turns_ok h8
     cases h51 : loopT (t_emit_emitter_travel_L0 p1 v9 (flen v9)) bigN ((⟨v2.2.settings, v2.2.amount, v2.2.cells, v2.2.nozzle, v2.2.speed, v2.2.has, (FS.nil : (FS api_Cmd)), v2.2.code⟩ : emit_emitter), 0) with
     | none => (rw [h51] at h; cases h)
     | some v52 =>
      simp only [h51] at h
      obtain ⟨f53, f53k⟩ := t_emit_emitter_travel_L0_ok h51
      simp only [t_emit_emitter_travel_L0_st, t_emit_emitter_travel_L0_out, fset_len] at f53
      cases e55 : v52.out with
      | nil =>
       try simp only [e55, flen_nil] at h
       simp only [e55, flen_nil, fcase_nil, fcase_lst] at f53
       cases h57 : fget p1.Cells (isub .i64 (flen p1.Cells) 1) with
       | none => (rw [h57] at h; cases h)
       | some v58 =>
        simp only [h57] at h
        have f56 := iaddr_F (e := e_api_Cell) h57
        cases h
        refine FC_byref (lf := lf101) rfl rfl rfl ?_
        simp only [lf101, lc101]
        rcases tof v2.1 with a59 | a59
        · try simp only [a59] at f3 f53
          simp (maxSteps := 4000000) [a59, e06, e4, f3, f7, f53, e55, f56]
        · simp [a59] at c5
      | lst l54 =>
       try simp only [e55] at h
       simp only [e55, flen_nil, fcase_nil, fcase_lst] at f53
       cases h61 : fget p1.Cells (isub .i64 (flen p1.Cells) 1) with
       | none => (rw [h61] at h; cases h)
       | some v62 =>
        simp only [h61] at h
        have f60 := iaddr_F (e := e_api_Cell) h61
        cases h
        refine FC_byref (lf := lf101) rfl rfl rfl ?_
        simp only [lf101, lc101]
        rcases tof v2.1 with a63 | a63
        · try simp only [a63] at f3 f53
          simp (maxSteps := 4000000) [a63, e06, e4, f3, f7, f53, e55, f60]
        · simp [a63] at c5
theorem t_emit_emitter_travel_okO {p0 : emit_emitter} {p1 : api_Op} {le06 : List api_Cmd} (e06 : p0.out = FS.lst le06) {r : emit_emitter} (h : t_emit_emitter_travel p0 p1 = some r) : FC env 101 [.ptr 0 0 0, .agg [.int .i64 p1.Kind, .int .i64 p1.Role, .int .i64 p1.Layer, .int .i64 p1.Z, .int .i64 p1.Speed, encF e_api_Cell p1.Cells]] (some (hl [(0, .box 0 [.int .i64 p0.settings.Pitch, .int .i64 p0.settings.Height, .int .i64 p0.settings.Walls, .int .i64 p0.settings.Top, .int .i64 p0.settings.Bottom, .int .i64 p0.settings.Pattern, .int .i64 p0.settings.Spacing, .bool p0.settings.Support, .int .i64 p0.settings.Reach, .int .i64 p0.settings.Gap, .int .i64 p0.settings.Brim, .int .i64 p0.settings.Skirt, .int .i64 p0.settings.Drop, .int .i64 p0.settings.Feed, .int .i64 p0.settings.Travel, .int .i64 p0.settings.Retract, .int .i64 p0.settings.MinTime, .int .i64 p0.settings.MinFeed, .int .i64 p0.settings.Nozzle, .int .i64 p0.settings.Bed, .int .i64 p0.amount, .int .i64 p0.cells, .int .i64 p0.nozzle.X, .int .i64 p0.nozzle.Y, .int .i64 p0.speed, .bool p0.has, .arr 1000026 0 0 p0.out.l.length, .int .i64 p0.code]), (1000026, .arr 0 8 55 (cellsE e_api_Cmd p0.out.l) false)], 0)) = some (.tup [], hl [(0, .box 0 [.int .i64 r.settings.Pitch, .int .i64 r.settings.Height, .int .i64 r.settings.Walls, .int .i64 r.settings.Top, .int .i64 r.settings.Bottom, .int .i64 r.settings.Pattern, .int .i64 r.settings.Spacing, .bool r.settings.Support, .int .i64 r.settings.Reach, .int .i64 r.settings.Gap, .int .i64 r.settings.Brim, .int .i64 r.settings.Skirt, .int .i64 r.settings.Drop, .int .i64 r.settings.Feed, .int .i64 r.settings.Travel, .int .i64 r.settings.Retract, .int .i64 r.settings.MinTime, .int .i64 r.settings.MinFeed, .int .i64 r.settings.Nozzle, .int .i64 r.settings.Bed, .int .i64 r.amount, .int .i64 r.cells, .int .i64 r.nozzle.X, .int .i64 r.nozzle.Y, .int .i64 r.speed, .bool r.has, .arr 1000026 0 0 r.out.l.length, .int .i64 r.code]), (1000026, .arr 0 8 55 (cellsE e_api_Cmd r.out.l) false)]) ∧ ∃ l, r.out = FS.lst l := by
 unfold t_emit_emitter_travel at h
 simp only [e06, flen_nil] at h
 cases h1 : t_emit_emitter_moves (⟨p0.settings, p0.amount, p0.cells, p0.nozzle, p0.speed, p0.has, (FS.lst le06), p0.code⟩ : emit_emitter) p1 with
 | none => (rw [h1] at h; cases h)
 | some v2 =>
  simp only [h1] at h
  obtain ⟨f3, ⟨l5, e4⟩⟩ := t_emit_emitter_moves_okO rfl h1
  simp only [e4] at f3
  try simp only [e4] at h
  try simp only [fset_len, encF_nil, fcase_nil, fcase_lst, fcase_fsnoc, fcase_fapp, fcase_fset, fcase_frep, fcase_flit, fcase_flst] at f3
  try simp only [fcase_nil, fcase_lst, fcase_fsnoc, fcase_fapp, fcase_fset, fcase_frep, fcase_flit, fcase_flst] at f3
  by_cases c6 : (bnot v2.1) = true
  · rw [if_pos c6] at h
    cases h
    refine ⟨?_, by first | exact ⟨_, rfl⟩ | exact ⟨_, by assumption⟩⟩
    refine FC_byref (lf := lf101) rfl rfl rfl ?_
    simp only [lf101, lc101]
    rcases tof v2.1 with a7 | a7
    · simp [a7] at c6
    · try simp only [a7] at f3
      simp (maxSteps := 4000000) [a7, e06, e4, f3]
  · rw [if_neg c6] at h
    rw [Bool.not_eq_true] at c6
    cases h9 : t_emit_turns p1.Cells v2.2.nozzle with
    | none => (rw [h9] at h; cases h)
    | some v10 =>
     simp only [h9] at h
     have f8 := t_emit_turns_ok h9
     cases h11 : loopT (t_emit_emitter_travel_L0 p1 v10 (flen v10)) bigN ((⟨v2.2.settings, v2.2.amount, v2.2.cells, v2.2.nozzle, v2.2.speed, v2.2.has, (FS.lst l5), v2.2.code⟩ : emit_emitter), 0) with
     | none => (rw [h11] at h; cases h)
     | some v12 =>
      simp only [h11] at h
      obtain ⟨f13, f13k⟩ := t_emit_emitter_travel_L0_ok h11
      simp only [t_emit_emitter_travel_L0_st, t_emit_emitter_travel_L0_out, fset_len] at f13
      cases e15 : v12.out with
      | nil =>
       obtain ⟨_, k⟩ := f13k ⟨_, rfl⟩
       exact (nl_ne (e15.symm.trans k)).elim
      | lst l14 =>
       try simp only [e15] at h
       simp only [e15, flen_nil, fcase_nil, fcase_lst] at f13
       cases h17 : fget p1.Cells (isub .i64 (flen p1.Cells) 1) with
       | none => (rw [h17] at h; cases h)
       | some v18 =>
        simp only [h17] at h
        have f16 := iaddr_F (e := e_api_Cell) h17
        cases h
        refine ⟨?_, by first | exact ⟨_, rfl⟩ | exact ⟨_, by assumption⟩⟩
        refine FC_byref (lf := lf101) rfl rfl rfl ?_
        simp only [lf101, lc101]
        rcases tof v2.1 with a19 | a19
        · try simp only [a19] at f3 f13
          simp (maxSteps := 4000000) [a19, e06, e4, f3, f8, f13, e15, f16]
        · simp [a19] at c6

/-! emit.emitter).layer -/
attribute [simp] c100_0 c100_1
def t_emit_emitter_layer (p0 : emit_emitter) (p1 : api_Op) : Option emit_emitter := (match t_emit_emitter_fast (⟨p0.settings, p0.amount, p0.cells, p0.nozzle, p0.speed, p0.has, p0.out, p0.code⟩ : emit_emitter) (⟨0, 4, 0, 0, p1.Z, 0, 0, 0⟩ : api_Cmd) p0.settings.Travel with
 | none => none
 | some v2 => (match t_emit_emitter_add (⟨v2.2.settings, v2.2.amount, v2.2.cells, v2.2.nozzle, v2.2.speed, v2.2.has, v2.2.out, v2.2.code⟩ : emit_emitter) v2.1 with
 | none => none
 | some v5 => some (⟨v5.settings, v5.amount, v5.cells, v5.nozzle, v5.speed, v5.has, v5.out, v5.code⟩ : emit_emitter)))
theorem t_emit_emitter_layer_okN {p0 : emit_emitter} {p1 : api_Op} (e06 : p0.out = FS.nil) {r : emit_emitter} (h : t_emit_emitter_layer p0 p1 = some r) : FC env 100 [.ptr 0 0 0, .agg [.int .i64 p1.Kind, .int .i64 p1.Role, .int .i64 p1.Layer, .int .i64 p1.Z, .int .i64 p1.Speed, encF e_api_Cell p1.Cells]] (some (hl [(0, .box 0 [.int .i64 p0.settings.Pitch, .int .i64 p0.settings.Height, .int .i64 p0.settings.Walls, .int .i64 p0.settings.Top, .int .i64 p0.settings.Bottom, .int .i64 p0.settings.Pattern, .int .i64 p0.settings.Spacing, .bool p0.settings.Support, .int .i64 p0.settings.Reach, .int .i64 p0.settings.Gap, .int .i64 p0.settings.Brim, .int .i64 p0.settings.Skirt, .int .i64 p0.settings.Drop, .int .i64 p0.settings.Feed, .int .i64 p0.settings.Travel, .int .i64 p0.settings.Retract, .int .i64 p0.settings.MinTime, .int .i64 p0.settings.MinFeed, .int .i64 p0.settings.Nozzle, .int .i64 p0.settings.Bed, .int .i64 p0.amount, .int .i64 p0.cells, .int .i64 p0.nozzle.X, .int .i64 p0.nozzle.Y, .int .i64 p0.speed, .bool p0.has, .nils, .int .i64 p0.code])], 0)) = some (.tup [], (fcase r.out (hl [(0, .box 0 [.int .i64 r.settings.Pitch, .int .i64 r.settings.Height, .int .i64 r.settings.Walls, .int .i64 r.settings.Top, .int .i64 r.settings.Bottom, .int .i64 r.settings.Pattern, .int .i64 r.settings.Spacing, .bool r.settings.Support, .int .i64 r.settings.Reach, .int .i64 r.settings.Gap, .int .i64 r.settings.Brim, .int .i64 r.settings.Skirt, .int .i64 r.settings.Drop, .int .i64 r.settings.Feed, .int .i64 r.settings.Travel, .int .i64 r.settings.Retract, .int .i64 r.settings.MinTime, .int .i64 r.settings.MinFeed, .int .i64 r.settings.Nozzle, .int .i64 r.settings.Bed, .int .i64 r.amount, .int .i64 r.cells, .int .i64 r.nozzle.X, .int .i64 r.nozzle.Y, .int .i64 r.speed, .bool r.has, .nils, .int .i64 r.code])])
  (fun l0 => hl [(0, .box 0 [.int .i64 r.settings.Pitch, .int .i64 r.settings.Height, .int .i64 r.settings.Walls, .int .i64 r.settings.Top, .int .i64 r.settings.Bottom, .int .i64 r.settings.Pattern, .int .i64 r.settings.Spacing, .bool r.settings.Support, .int .i64 r.settings.Reach, .int .i64 r.settings.Gap, .int .i64 r.settings.Brim, .int .i64 r.settings.Skirt, .int .i64 r.settings.Drop, .int .i64 r.settings.Feed, .int .i64 r.settings.Travel, .int .i64 r.settings.Retract, .int .i64 r.settings.MinTime, .int .i64 r.settings.MinFeed, .int .i64 r.settings.Nozzle, .int .i64 r.settings.Bed, .int .i64 r.amount, .int .i64 r.cells, .int .i64 r.nozzle.X, .int .i64 r.nozzle.Y, .int .i64 r.speed, .bool r.has, .arr 1000026 0 0 l0.l.length, .int .i64 r.code]), (1000026, .arr 0 8 55 (cellsE e_api_Cmd l0.l) false)]))) := by
 unfold t_emit_emitter_layer at h
 simp only [e06, flen_nil] at h
 cases h1 : t_emit_emitter_fast (⟨p0.settings, p0.amount, p0.cells, p0.nozzle, p0.speed, p0.has, (FS.nil : (FS api_Cmd)), p0.code⟩ : emit_emitter) (⟨0, 4, 0, 0, p1.Z, 0, 0, 0⟩ : api_Cmd) p0.settings.Travel with
 | none => (rw [h1] at h; cases h)
 | some v2 =>
  simp only [h1] at h
  obtain ⟨f3, e4⟩ := t_emit_emitter_fast_okN rfl h1
  simp only [e4] at f3
  try simp only [e4] at h
  try simp only [fset_len, encF_nil, fcase_nil, fcase_lst, fcase_fsnoc, fcase_fapp, fcase_fset, fcase_frep, fcase_flit, fcase_flst] at f3
  try simp only [fcase_nil, fcase_lst, fcase_fsnoc, fcase_fapp, fcase_fset, fcase_frep, fcase_flit, fcase_flst] at f3
  cases h5 : t_emit_emitter_add (⟨v2.2.settings, v2.2.amount, v2.2.cells, v2.2.nozzle, v2.2.speed, v2.2.has, (FS.nil : (FS api_Cmd)), v2.2.code⟩ : emit_emitter) v2.1 with
  | none => (rw [h5] at h; cases h)
  | some v6 =>
   simp only [h5] at h
   have f7 := t_emit_emitter_add_okN rfl h5
   try simp only [fset_len, encF_nil, fcase_nil, fcase_lst, fcase_fsnoc, fcase_fapp, fcase_fset, fcase_frep, fcase_flit, fcase_flst] at f7
   cases e9 : v6.out with
   | nil =>
    try simp only [e9, flen_nil] at h
    simp only [e9, flen_nil, fcase_nil, fcase_lst] at f7
    cases h
    refine FC_byref (lf := lf100) rfl rfl rfl ?_
    simp only [lf100, lc100]
    simp (maxSteps := 4000000) [e06, e4, f3, f7, e9]
   | lst l8 =>
    try simp only [e9] at h
    simp only [e9, flen_nil, fcase_nil, fcase_lst] at f7
    cases h
    refine FC_byref (lf := lf100) rfl rfl rfl ?_
    simp only [lf100, lc100]
    simp (maxSteps := 4000000) [e06, e4, f3, f7, e9]
theorem t_emit_emitter_layer_okO {p0 : emit_emitter} {p1 : api_Op} {le06 : List api_Cmd} (e06 : p0.out = FS.lst le06) {r : emit_emitter} (h : t_emit_emitter_layer p0 p1 = some r) : FC env 100 [.ptr 0 0 0, .agg [.int .i64 p1.Kind, .int .i64 p1.Role, .int .i64 p1.Layer, .int .i64 p1.Z, .int .i64 p1.Speed, encF e_api_Cell p1.Cells]] (some (hl [(0, .box 0 [.int .i64 p0.settings.Pitch, .int .i64 p0.settings.Height, .int .i64 p0.settings.Walls, .int .i64 p0.settings.Top, .int .i64 p0.settings.Bottom, .int .i64 p0.settings.Pattern, .int .i64 p0.settings.Spacing, .bool p0.settings.Support, .int .i64 p0.settings.Reach, .int .i64 p0.settings.Gap, .int .i64 p0.settings.Brim, .int .i64 p0.settings.Skirt, .int .i64 p0.settings.Drop, .int .i64 p0.settings.Feed, .int .i64 p0.settings.Travel, .int .i64 p0.settings.Retract, .int .i64 p0.settings.MinTime, .int .i64 p0.settings.MinFeed, .int .i64 p0.settings.Nozzle, .int .i64 p0.settings.Bed, .int .i64 p0.amount, .int .i64 p0.cells, .int .i64 p0.nozzle.X, .int .i64 p0.nozzle.Y, .int .i64 p0.speed, .bool p0.has, .arr 1000026 0 0 p0.out.l.length, .int .i64 p0.code]), (1000026, .arr 0 8 55 (cellsE e_api_Cmd p0.out.l) false)], 0)) = some (.tup [], hl [(0, .box 0 [.int .i64 r.settings.Pitch, .int .i64 r.settings.Height, .int .i64 r.settings.Walls, .int .i64 r.settings.Top, .int .i64 r.settings.Bottom, .int .i64 r.settings.Pattern, .int .i64 r.settings.Spacing, .bool r.settings.Support, .int .i64 r.settings.Reach, .int .i64 r.settings.Gap, .int .i64 r.settings.Brim, .int .i64 r.settings.Skirt, .int .i64 r.settings.Drop, .int .i64 r.settings.Feed, .int .i64 r.settings.Travel, .int .i64 r.settings.Retract, .int .i64 r.settings.MinTime, .int .i64 r.settings.MinFeed, .int .i64 r.settings.Nozzle, .int .i64 r.settings.Bed, .int .i64 r.amount, .int .i64 r.cells, .int .i64 r.nozzle.X, .int .i64 r.nozzle.Y, .int .i64 r.speed, .bool r.has, .arr 1000026 0 0 r.out.l.length, .int .i64 r.code]), (1000026, .arr 0 8 55 (cellsE e_api_Cmd r.out.l) false)]) ∧ ∃ l, r.out = FS.lst l := by
 unfold t_emit_emitter_layer at h
 simp only [e06, flen_nil] at h
 cases h1 : t_emit_emitter_fast (⟨p0.settings, p0.amount, p0.cells, p0.nozzle, p0.speed, p0.has, (FS.lst le06), p0.code⟩ : emit_emitter) (⟨0, 4, 0, 0, p1.Z, 0, 0, 0⟩ : api_Cmd) p0.settings.Travel with
 | none => (rw [h1] at h; cases h)
 | some v2 =>
  simp only [h1] at h
  obtain ⟨f3, ⟨l5, e4⟩⟩ := t_emit_emitter_fast_okO rfl h1
  simp only [e4] at f3
  try simp only [e4] at h
  try simp only [fset_len, encF_nil, fcase_nil, fcase_lst, fcase_fsnoc, fcase_fapp, fcase_fset, fcase_frep, fcase_flit, fcase_flst] at f3
  try simp only [fcase_nil, fcase_lst, fcase_fsnoc, fcase_fapp, fcase_fset, fcase_frep, fcase_flit, fcase_flst] at f3
  cases h6 : t_emit_emitter_add (⟨v2.2.settings, v2.2.amount, v2.2.cells, v2.2.nozzle, v2.2.speed, v2.2.has, (FS.lst l5), v2.2.code⟩ : emit_emitter) v2.1 with
  | none => (rw [h6] at h; cases h)
  | some v7 =>
   simp only [h6] at h
   obtain ⟨f8, ⟨l10, e9⟩⟩ := t_emit_emitter_add_okO rfl h6
   simp only [e9] at f8
   try simp only [e9] at h
   try simp only [fset_len, encF_nil, fcase_nil, fcase_lst, fcase_fsnoc, fcase_fapp, fcase_fset, fcase_frep, fcase_flit, fcase_flst] at f8
   try simp only [fcase_nil, fcase_lst, fcase_fsnoc, fcase_fapp, fcase_fset, fcase_frep, fcase_flit, fcase_flst] at f8
   cases h
   refine ⟨?_, by first | exact ⟨_, rfl⟩ | exact ⟨_, by assumption⟩⟩
   refine FC_byref (lf := lf100) rfl rfl rfl ?_
   simp only [lf100, lc100]
   simp (maxSteps := 4000000) [e06, e4, f3, e9, f8]

/-! emit.Commands -/
attribute [simp] c36_0 c36_1 c36_2 c36_3 c36_4 c36_5 c36_6 c36_7 c36_8 c36_9 c36_10 c36_11 c36_12 c36_13 c36_14 c36_16
theorem c36_L0_u (Γ : Env) (ps : List Nat) (σ : St) : EC Γ ps 0 c36_L0 σ = EC Γ ps 0 (.seq (.reg false c36_6) (.seq (.cond (.t 26) .skip (.seq (.trim [8]) (.exit 0))) (.seq (.blk 1 (.seq (.reg false c36_7) (.seq (.seq (.reg false c36_8) (.cond (.t 33) (.seq (.reg false c36_9) (.seq (.trim [4, 5]) .ret)) .skip)) (.seq (.reg false c36_10) (.seq (.reg true c36_11) (.seq (.reg false c36_12) (.cond (.t 51) (.seq (.reg true c36_13) (.seq (.trim [4, 5]) .ret)) .skip))))))) (.reg false c36_14)))) σ := rfl
attribute [simp ↓] c36_L0_u
def t_emit_Commands_L0 (k0 : (FS Int)) (k1 : (FS api_Op)) (k2 : Int) (s : (emit_emitter × Int)) : Option (LR (emit_emitter × Int) (((FS api_Cmd) × Int) ⊕ emit_emitter)) := match s with
 | (s0, s1) => (if (ilt s1 k2) = true then (match fget k1 s1 with
 | none => none
 | some v8 => (match t_emit_inside v8.Cells with
 | none => none
 | some v11 => (if (bnot v11) = true then some (.dn (.inl ((FS.nil : (FS api_Cmd)), 8)))
 else (match fget k0 s1 with
 | none => none
 | some v15 => (match t_emit_handler v8.Kind with
 | none => none
 | some v18 => (if v18 = 100 then (match t_emit_emitter_layer (⟨s0.settings, v15, s0.cells, s0.nozzle, s0.speed, s0.has, s0.out, s0.code⟩ : emit_emitter) v8 with
 | none => none
 | some v46 => (if (ine v46.code 0) = true then some (.dn (.inl ((FS.nil : (FS api_Cmd)), v46.code)))
 else some (.nx ((⟨v46.settings, v46.amount, v46.cells, v46.nozzle, v46.speed, v46.has, v46.out, v46.code⟩ : emit_emitter), (iadd .i64 s1 1))))) else (if v18 = 101 then (match t_emit_emitter_travel (⟨s0.settings, v15, s0.cells, s0.nozzle, s0.speed, s0.has, s0.out, s0.code⟩ : emit_emitter) v8 with
 | none => none
 | some v41 => (if (ine v41.code 0) = true then some (.dn (.inl ((FS.nil : (FS api_Cmd)), v41.code)))
 else some (.nx ((⟨v41.settings, v41.amount, v41.cells, v41.nozzle, v41.speed, v41.has, v41.out, v41.code⟩ : emit_emitter), (iadd .i64 s1 1))))) else (if v18 = 102 then (match t_emit_emitter_print (⟨s0.settings, v15, s0.cells, s0.nozzle, s0.speed, s0.has, s0.out, s0.code⟩ : emit_emitter) v8 with
 | none => none
 | some v36 => (if (ine v36.code 0) = true then some (.dn (.inl ((FS.nil : (FS api_Cmd)), v36.code)))
 else some (.nx ((⟨v36.settings, v36.amount, v36.cells, v36.nozzle, v36.speed, v36.has, v36.out, v36.code⟩ : emit_emitter), (iadd .i64 s1 1))))) else (if v18 = 103 then (match t_emit_emitter_feed (⟨s0.settings, v15, s0.cells, s0.nozzle, s0.speed, s0.has, s0.out, s0.code⟩ : emit_emitter) v8 with
 | none => none
 | some v31 => (if (ine v31.code 0) = true then some (.dn (.inl ((FS.nil : (FS api_Cmd)), v31.code)))
 else some (.nx ((⟨v31.settings, v31.amount, v31.cells, v31.nozzle, v31.speed, v31.has, v31.out, v31.code⟩ : emit_emitter), (iadd .i64 s1 1))))) else (if v18 = 104 then (match t_emit_emitter_fan (⟨s0.settings, v15, s0.cells, s0.nozzle, s0.speed, s0.has, s0.out, s0.code⟩ : emit_emitter) v8 with
 | none => none
 | some v26 => (if (ine v26.code 0) = true then some (.dn (.inl ((FS.nil : (FS api_Cmd)), v26.code)))
 else some (.nx ((⟨v26.settings, v26.amount, v26.cells, v26.nozzle, v26.speed, v26.has, v26.out, v26.code⟩ : emit_emitter), (iadd .i64 s1 1))))) else (if v18 = 105 then (match t_emit_emitter_nothing (⟨s0.settings, v15, s0.cells, s0.nozzle, s0.speed, s0.has, s0.out, s0.code⟩ : emit_emitter) v8 with
 | none => none
 | some v21 => (if (ine v21.code 0) = true then some (.dn (.inl ((FS.nil : (FS api_Cmd)), v21.code)))
 else some (.nx ((⟨v21.settings, v21.amount, v21.cells, v21.nozzle, v21.speed, v21.has, v21.out, v21.code⟩ : emit_emitter), (iadd .i64 s1 1))))) else none)))))))))))
 else some (.dn (.inr (⟨s0.settings, s0.amount, s0.cells, s0.nozzle, s0.speed, s0.has, s0.out, s0.code⟩ : emit_emitter))))
def t_emit_Commands_L0_st (k0 : (FS Int)) (k1 : (FS api_Op)) (k2 : Int) (s : (emit_emitter × Int)) : St := match s with
 | (s0, s1) => (fcase s0.out (⟨fr [(6, encF e_i64 k0), (8, .ptr 22 0 0), (23, encF e_api_Op k1), (24, .int .i64 k2), (25, .int .i64 s1)], hl [(22, .box 0 [.int .i64 s0.settings.Pitch, .int .i64 s0.settings.Height, .int .i64 s0.settings.Walls, .int .i64 s0.settings.Top, .int .i64 s0.settings.Bottom, .int .i64 s0.settings.Pattern, .int .i64 s0.settings.Spacing, .bool s0.settings.Support, .int .i64 s0.settings.Reach, .int .i64 s0.settings.Gap, .int .i64 s0.settings.Brim, .int .i64 s0.settings.Skirt, .int .i64 s0.settings.Drop, .int .i64 s0.settings.Feed, .int .i64 s0.settings.Travel, .int .i64 s0.settings.Retract, .int .i64 s0.settings.MinTime, .int .i64 s0.settings.MinFeed, .int .i64 s0.settings.Nozzle, .int .i64 s0.settings.Bed, .int .i64 s0.amount, .int .i64 s0.cells, .int .i64 s0.nozzle.X, .int .i64 s0.nozzle.Y, .int .i64 s0.speed, .bool s0.has, .nils, .int .i64 s0.code])]⟩)
  (fun l0 => ⟨fr [(6, encF e_i64 k0), (8, .ptr 22 0 0), (23, encF e_api_Op k1), (24, .int .i64 k2), (25, .int .i64 s1)], hl [(22, .box 0 [.int .i64 s0.settings.Pitch, .int .i64 s0.settings.Height, .int .i64 s0.settings.Walls, .int .i64 s0.settings.Top, .int .i64 s0.settings.Bottom, .int .i64 s0.settings.Pattern, .int .i64 s0.settings.Spacing, .bool s0.settings.Support, .int .i64 s0.settings.Reach, .int .i64 s0.settings.Gap, .int .i64 s0.settings.Brim, .int .i64 s0.settings.Skirt, .int .i64 s0.settings.Drop, .int .i64 s0.settings.Feed, .int .i64 s0.settings.Travel, .int .i64 s0.settings.Retract, .int .i64 s0.settings.MinTime, .int .i64 s0.settings.MinFeed, .int .i64 s0.settings.Nozzle, .int .i64 s0.settings.Bed, .int .i64 s0.amount, .int .i64 s0.cells, .int .i64 s0.nozzle.X, .int .i64 s0.nozzle.Y, .int .i64 s0.speed, .bool s0.has, .arr 1022026 0 0 l0.l.length, .int .i64 s0.code]), (1022026, .arr 0 8 55 (cellsE e_api_Cmd l0.l) false)]⟩))
def t_emit_Commands_L0_out (k0 : (FS Int)) (k1 : (FS api_Op)) (k2 : Int) (x : (((FS api_Cmd) × Int) ⊕ emit_emitter)) : LE × St := match x with
 | .inl x => (.ret, ⟨fr [(4, .nils), (5, .int .i64 x.2)], hl []⟩)
 | .inr x => (fcase x.out (.exit 0, ⟨fr [(8, .ptr 22 0 0)], hl [(22, .box 0 [.int .i64 x.settings.Pitch, .int .i64 x.settings.Height, .int .i64 x.settings.Walls, .int .i64 x.settings.Top, .int .i64 x.settings.Bottom, .int .i64 x.settings.Pattern, .int .i64 x.settings.Spacing, .bool x.settings.Support, .int .i64 x.settings.Reach, .int .i64 x.settings.Gap, .int .i64 x.settings.Brim, .int .i64 x.settings.Skirt, .int .i64 x.settings.Drop, .int .i64 x.settings.Feed, .int .i64 x.settings.Travel, .int .i64 x.settings.Retract, .int .i64 x.settings.MinTime, .int .i64 x.settings.MinFeed, .int .i64 x.settings.Nozzle, .int .i64 x.settings.Bed, .int .i64 x.amount, .int .i64 x.cells, .int .i64 x.nozzle.X, .int .i64 x.nozzle.Y, .int .i64 x.speed, .bool x.has, .nils, .int .i64 x.code])]⟩)
  (fun l0 => (.exit 0, ⟨fr [(8, .ptr 22 0 0)], hl [(22, .box 0 [.int .i64 x.settings.Pitch, .int .i64 x.settings.Height, .int .i64 x.settings.Walls, .int .i64 x.settings.Top, .int .i64 x.settings.Bottom, .int .i64 x.settings.Pattern, .int .i64 x.settings.Spacing, .bool x.settings.Support, .int .i64 x.settings.Reach, .int .i64 x.settings.Gap, .int .i64 x.settings.Brim, .int .i64 x.settings.Skirt, .int .i64 x.settings.Drop, .int .i64 x.settings.Feed, .int .i64 x.settings.Travel, .int .i64 x.settings.Retract, .int .i64 x.settings.MinTime, .int .i64 x.settings.MinFeed, .int .i64 x.settings.Nozzle, .int .i64 x.settings.Bed, .int .i64 x.amount, .int .i64 x.cells, .int .i64 x.nozzle.X, .int .i64 x.nozzle.Y, .int .i64 x.speed, .bool x.has, .arr 1022026 0 0 l0.l.length, .int .i64 x.code]), (1022026, .arr 0 8 55 (cellsE e_api_Cmd l0.l) false)]⟩)))
theorem t_emit_Commands_L0_ok {k0 : (FS Int)} {k1 : (FS api_Op)} {k2 : Int} {s : (emit_emitter × Int)} {r : (((FS api_Cmd) × Int) ⊕ emit_emitter)} (h : loopT (t_emit_Commands_L0 k0 k1 k2) bigN s = some r) : LK env [] 0 [6, 8, 23, 24, 25] c36_L0 (some (t_emit_Commands_L0_st k0 k1 k2 s)) = some (t_emit_Commands_L0_out k0 k1 k2 r) := loop_walk (st := t_emit_Commands_L0_st k0 k1 k2) (out := t_emit_Commands_L0_out k0 k1 k2) (by
 clear h s r
 rintro ⟨s0, s1⟩ x h
 simp only [t_emit_Commands_L0] at h
 cases e6 : s0.out with
 | nil =>
  try simp only [e6, flen_nil] at h
  by_cases c7 : (ilt s1 k2) = true
  · rw [if_pos c7] at h
    cases h9 : fget k1 s1 with
    | none => (rw [h9] at h; cases h)
    | some v10 =>
     simp only [h9] at h
     have f8 := iaddr_F (e := e_api_Op) h9
     cases h12 : t_emit_inside v10.Cells with
     | none => (rw [h12] at h; cases h)
     | some v13 =>
      simp only [h12] at h
      have f11 := t_emit_inside_ok h12
      by_cases c14 : (bnot v13) = true
      · rw [if_pos c14] at h
        cases h
        show LK env [] 0 [6, 8, 23, 24, 25] c36_L0 (some (t_emit_Commands_L0_st _ _ _ _)) = some (t_emit_Commands_L0_out _ _ _ _)
        simp only [t_emit_Commands_L0_st, t_emit_Commands_L0_out, e6]
        rw [LK_step]
        rcases tof v13 with a15 | a15
        · simp [c7, a15] at c14
        · simp (maxSteps := 4000000) [c7, a15, e6, f8, f11]
      · rw [if_neg c14] at h
        rw [Bool.not_eq_true] at c14
        cases h17 : fget k0 s1 with
        | none => (rw [h17] at h; cases h)
        | some v18 =>
         simp only [h17] at h
         have f16 := iaddr_F (e := e_i64) h17
         cases h20 : t_emit_handler v10.Kind with
         | none => (rw [h20] at h; cases h)
         | some v21 =>
          simp only [h20] at h
          have f19 := t_emit_handler_ok h20
          by_cases h78 : v21 = 100
          · rw [if_pos h78] at h
            subst h78
            cases h79 : t_emit_emitter_layer (⟨s0.settings, v18, s0.cells, s0.nozzle, s0.speed, s0.has, (FS.nil : (FS api_Cmd)), s0.code⟩ : emit_emitter) v10 with
            | none => (rw [h79] at h; cases h)
            | some v80 =>
             simp only [h79] at h
             have f81 := t_emit_emitter_layer_okN rfl h79
             try simp only [fset_len, encF_nil, fcase_nil, fcase_lst, fcase_fsnoc, fcase_fapp, fcase_fset, fcase_frep, fcase_flit, fcase_flst] at f81
             cases e83 : v80.out with
             | nil =>
              try simp only [e83, flen_nil] at h
              simp only [e83, flen_nil, fcase_nil, fcase_lst] at f81
              by_cases c84 : (ine v80.code 0) = true
              · rw [if_pos c84] at h
                cases h
                show LK env [] 0 [6, 8, 23, 24, 25] c36_L0 (some (t_emit_Commands_L0_st _ _ _ _)) = some (t_emit_Commands_L0_out _ _ _ _)
                simp only [t_emit_Commands_L0_st, t_emit_Commands_L0_out, e6]
                rw [LK_step]
                rcases tof v13 with a85 | a85
                · try simp only [c7, a85, c84] at f81
                  simp (maxSteps := 4000000) [c7, a85, c84, e6, f8, f11, f16, f19, f81, e83]
                · simp [c7, a85] at c14
              · rw [if_neg c84] at h
                rw [Bool.not_eq_true] at c84
                cases h
                show LK env [] 0 [6, 8, 23, 24, 25] c36_L0 (some (t_emit_Commands_L0_st _ _ _ _)) = LK env [] 0 [6, 8, 23, 24, 25] c36_L0 (some (t_emit_Commands_L0_st _ _ _ _))
                simp only [t_emit_Commands_L0_st, e6]
                rw [LK_step]
                rcases tof v13 with a86 | a86
                · try simp only [c7, a86, c84] at f81
                  simp (maxSteps := 4000000) [c7, a86, c84, e6, f8, f11, f16, f19, f81, e83]
                · simp [c7, a86] at c14
             | lst l82 =>
              try simp only [e83] at h
              simp only [e83, flen_nil, fcase_nil, fcase_lst] at f81
              by_cases c87 : (ine v80.code 0) = true
              · rw [if_pos c87] at h
                cases h
                show LK env [] 0 [6, 8, 23, 24, 25] c36_L0 (some (t_emit_Commands_L0_st _ _ _ _)) = some (t_emit_Commands_L0_out _ _ _ _)
                simp only [t_emit_Commands_L0_st, t_emit_Commands_L0_out, e6]
                rw [LK_step]
                rcases tof v13 with a88 | a88
                · try simp only [c7, a88, c87] at f81
                  simp (maxSteps := 4000000) [c7, a88, c87, e6, f8, f11, f16, f19, f81, e83]
                · simp [c7, a88] at c14
              · rw [if_neg c87] at h
                rw [Bool.not_eq_true] at c87
                cases h
                show LK env [] 0 [6, 8, 23, 24, 25] c36_L0 (some (t_emit_Commands_L0_st _ _ _ _)) = LK env [] 0 [6, 8, 23, 24, 25] c36_L0 (some (t_emit_Commands_L0_st _ _ _ _))
                simp only [t_emit_Commands_L0_st, e6]
                rw [LK_step]
                rcases tof v13 with a89 | a89
                · try simp only [c7, a89, c87] at f81
                  simp (maxSteps := 4000000) [c7, a89, c87, e6, f8, f11, f16, f19, f81, e83]
                · simp [c7, a89] at c14
          · rw [if_neg h78] at h
            by_cases h66 : v21 = 101
            · rw [if_pos h66] at h
              subst h66
              cases h67 : t_emit_emitter_travel (⟨s0.settings, v18, s0.cells, s0.nozzle, s0.speed, s0.has, (FS.nil : (FS api_Cmd)), s0.code⟩ : emit_emitter) v10 with
              | none => (rw [h67] at h; cases h)
              | some v68 =>
               simp only [h67] at h
               have f69 := t_emit_emitter_travel_okN rfl h67
               try simp only [fset_len, encF_nil, fcase_nil, fcase_lst, fcase_fsnoc, fcase_fapp, fcase_fset, fcase_frep, fcase_flit, fcase_flst] at f69
               cases e71 : v68.out with
               | nil =>
                try simp only [e71, flen_nil] at h
                simp only [e71, flen_nil, fcase_nil, fcase_lst] at f69
                by_cases c72 : (ine v68.code 0) = true
                · rw [if_pos c72] at h
                  cases h
                  show LK env [] 0 [6, 8, 23, 24, 25] c36_L0 (some (t_emit_Commands_L0_st _ _ _ _)) = some (t_emit_Commands_L0_out _ _ _ _)
                  simp only [t_emit_Commands_L0_st, t_emit_Commands_L0_out, e6]
                  rw [LK_step]
                  rcases tof v13 with a73 | a73
                  · try simp only [c7, a73, c72] at f69
                    simp (maxSteps := 4000000) [c7, a73, c72, e6, f8, f11, f16, f19, f69, e71]
                  · simp [c7, a73] at c14
                · rw [if_neg c72] at h
                  rw [Bool.not_eq_true] at c72
                  cases h
                  show LK env [] 0 [6, 8, 23, 24, 25] c36_L0 (some (t_emit_Commands_L0_st _ _ _ _)) = LK env [] 0 [6, 8, 23, 24, 25] c36_L0 (some (t_emit_Commands_L0_st _ _ _ _))
                  simp only [t_emit_Commands_L0_st, e6]
                  rw [LK_step]
                  rcases tof v13 with a74 | a74
                  · try simp only [c7, a74, c72] at f69
                    simp (maxSteps := 4000000) [c7, a74, c72, e6, f8, f11, f16, f19, f69, e71]
                  · simp [c7, a74] at c14
               | lst l70 =>
                try simp only [e71] at h
                simp only [e71, flen_nil, fcase_nil, fcase_lst] at f69
                by_cases c75 : (ine v68.code 0) = true
                · rw [if_pos c75] at h
                  cases h
                  show LK env [] 0 [6, 8, 23, 24, 25] c36_L0 (some (t_emit_Commands_L0_st _ _ _ _)) = some (t_emit_Commands_L0_out _ _ _ _)
                  simp only [t_emit_Commands_L0_st, t_emit_Commands_L0_out, e6]
                  rw [LK_step]
                  rcases tof v13 with a76 | a76
                  · try simp only [c7, a76, c75] at f69
                    simp (maxSteps := 4000000) [c7, a76, c75, e6, f8, f11, f16, f19, f69, e71]
                  · simp [c7, a76] at c14
                · rw [if_neg c75] at h
                  rw [Bool.not_eq_true] at c75
                  cases h
                  show LK env [] 0 [6, 8, 23, 24, 25] c36_L0 (some (t_emit_Commands_L0_st _ _ _ _)) = LK env [] 0 [6, 8, 23, 24, 25] c36_L0 (some (t_emit_Commands_L0_st _ _ _ _))
                  simp only [t_emit_Commands_L0_st, e6]
                  rw [LK_step]
                  rcases tof v13 with a77 | a77
                  · try simp only [c7, a77, c75] at f69
                    simp (maxSteps := 4000000) [c7, a77, c75, e6, f8, f11, f16, f19, f69, e71]
                  · simp [c7, a77] at c14
            · rw [if_neg h66] at h
              by_cases h54 : v21 = 102
              · rw [if_pos h54] at h
                subst h54
                cases h55 : t_emit_emitter_print (⟨s0.settings, v18, s0.cells, s0.nozzle, s0.speed, s0.has, (FS.nil : (FS api_Cmd)), s0.code⟩ : emit_emitter) v10 with
                | none => (rw [h55] at h; cases h)
                | some v56 =>
                 simp only [h55] at h
                 have f57 := t_emit_emitter_print_okN rfl h55
                 try simp only [fset_len, encF_nil, fcase_nil, fcase_lst, fcase_fsnoc, fcase_fapp, fcase_fset, fcase_frep, fcase_flit, fcase_flst] at f57
                 cases e59 : v56.out with
                 | nil =>
                  try simp only [e59, flen_nil] at h
                  simp only [e59, flen_nil, fcase_nil, fcase_lst] at f57
                  by_cases c60 : (ine v56.code 0) = true
                  · rw [if_pos c60] at h
                    cases h
                    show LK env [] 0 [6, 8, 23, 24, 25] c36_L0 (some (t_emit_Commands_L0_st _ _ _ _)) = some (t_emit_Commands_L0_out _ _ _ _)
                    simp only [t_emit_Commands_L0_st, t_emit_Commands_L0_out, e6]
                    rw [LK_step]
                    rcases tof v13 with a61 | a61
                    · try simp only [c7, a61, c60] at f57
                      simp (maxSteps := 4000000) [c7, a61, c60, e6, f8, f11, f16, f19, f57, e59]
                    · simp [c7, a61] at c14
                  · rw [if_neg c60] at h
                    rw [Bool.not_eq_true] at c60
                    cases h
                    show LK env [] 0 [6, 8, 23, 24, 25] c36_L0 (some (t_emit_Commands_L0_st _ _ _ _)) = LK env [] 0 [6, 8, 23, 24, 25] c36_L0 (some (t_emit_Commands_L0_st _ _ _ _))
                    simp only [t_emit_Commands_L0_st, e6]
                    rw [LK_step]
                    rcases tof v13 with a62 | a62
                    · try simp only [c7, a62, c60] at f57
                      simp (maxSteps := 4000000) [c7, a62, c60, e6, f8, f11, f16, f19, f57, e59]
                    · simp [c7, a62] at c14
                 | lst l58 =>
                  try simp only [e59] at h
                  simp only [e59, flen_nil, fcase_nil, fcase_lst] at f57
                  by_cases c63 : (ine v56.code 0) = true
                  · rw [if_pos c63] at h
                    cases h
                    show LK env [] 0 [6, 8, 23, 24, 25] c36_L0 (some (t_emit_Commands_L0_st _ _ _ _)) = some (t_emit_Commands_L0_out _ _ _ _)
                    simp only [t_emit_Commands_L0_st, t_emit_Commands_L0_out, e6]
                    rw [LK_step]
                    rcases tof v13 with a64 | a64
                    · try simp only [c7, a64, c63] at f57
                      simp (maxSteps := 4000000) [c7, a64, c63, e6, f8, f11, f16, f19, f57, e59]
                    · simp [c7, a64] at c14
                  · rw [if_neg c63] at h
                    rw [Bool.not_eq_true] at c63
                    cases h
                    show LK env [] 0 [6, 8, 23, 24, 25] c36_L0 (some (t_emit_Commands_L0_st _ _ _ _)) = LK env [] 0 [6, 8, 23, 24, 25] c36_L0 (some (t_emit_Commands_L0_st _ _ _ _))
                    simp only [t_emit_Commands_L0_st, e6]
                    rw [LK_step]
                    rcases tof v13 with a65 | a65
                    · try simp only [c7, a65, c63] at f57
                      simp (maxSteps := 4000000) [c7, a65, c63, e6, f8, f11, f16, f19, f57, e59]
                    · simp [c7, a65] at c14
              · rw [if_neg h54] at h
                by_cases h42 : v21 = 103
                · rw [if_pos h42] at h
                  subst h42
                  cases h43 : t_emit_emitter_feed (⟨s0.settings, v18, s0.cells, s0.nozzle, s0.speed, s0.has, (FS.nil : (FS api_Cmd)), s0.code⟩ : emit_emitter) v10 with
                  | none => (rw [h43] at h; cases h)
                  | some v44 =>
                   simp only [h43] at h
                   have f45 := t_emit_emitter_feed_okN rfl h43
                   try simp only [fset_len, encF_nil, fcase_nil, fcase_lst, fcase_fsnoc, fcase_fapp, fcase_fset, fcase_frep, fcase_flit, fcase_flst] at f45
                   cases e47 : v44.out with
                   | nil =>
                    try simp only [e47, flen_nil] at h
                    simp only [e47, flen_nil, fcase_nil, fcase_lst] at f45
                    by_cases c48 : (ine v44.code 0) = true
                    · rw [if_pos c48] at h
                      cases h
                      show LK env [] 0 [6, 8, 23, 24, 25] c36_L0 (some (t_emit_Commands_L0_st _ _ _ _)) = some (t_emit_Commands_L0_out _ _ _ _)
                      simp only [t_emit_Commands_L0_st, t_emit_Commands_L0_out, e6]
                      rw [LK_step]
                      rcases tof v13 with a49 | a49
                      · try simp only [c7, a49, c48] at f45
                        simp (maxSteps := 4000000) [c7, a49, c48, e6, f8, f11, f16, f19, f45, e47]
                      · simp [c7, a49] at c14
                    · rw [if_neg c48] at h
                      rw [Bool.not_eq_true] at c48
                      cases h
                      show LK env [] 0 [6, 8, 23, 24, 25] c36_L0 (some (t_emit_Commands_L0_st _ _ _ _)) = LK env [] 0 [6, 8, 23, 24, 25] c36_L0 (some (t_emit_Commands_L0_st _ _ _ _))
                      simp only [t_emit_Commands_L0_st, e6]
                      rw [LK_step]
                      rcases tof v13 with a50 | a50
                      · try simp only [c7, a50, c48] at f45
                        simp (maxSteps := 4000000) [c7, a50, c48, e6, f8, f11, f16, f19, f45, e47]
                      · simp [c7, a50] at c14
                   | lst l46 =>
                    try simp only [e47] at h
                    simp only [e47, flen_nil, fcase_nil, fcase_lst] at f45
                    by_cases c51 : (ine v44.code 0) = true
                    · rw [if_pos c51] at h
                      cases h
                      show LK env [] 0 [6, 8, 23, 24, 25] c36_L0 (some (t_emit_Commands_L0_st _ _ _ _)) = some (t_emit_Commands_L0_out _ _ _ _)
                      simp only [t_emit_Commands_L0_st, t_emit_Commands_L0_out, e6]
                      rw [LK_step]
                      rcases tof v13 with a52 | a52
                      · try simp only [c7, a52, c51] at f45
                        simp (maxSteps := 4000000) [c7, a52, c51, e6, f8, f11, f16, f19, f45, e47]
                      · simp [c7, a52] at c14
                    · rw [if_neg c51] at h
                      rw [Bool.not_eq_true] at c51
                      cases h
                      show LK env [] 0 [6, 8, 23, 24, 25] c36_L0 (some (t_emit_Commands_L0_st _ _ _ _)) = LK env [] 0 [6, 8, 23, 24, 25] c36_L0 (some (t_emit_Commands_L0_st _ _ _ _))
                      simp only [t_emit_Commands_L0_st, e6]
                      rw [LK_step]
                      rcases tof v13 with a53 | a53
                      · try simp only [c7, a53, c51] at f45
                        simp (maxSteps := 4000000) [c7, a53, c51, e6, f8, f11, f16, f19, f45, e47]
                      · simp [c7, a53] at c14
                · rw [if_neg h42] at h
                  by_cases h30 : v21 = 104
                  · rw [if_pos h30] at h
                    subst h30
                    cases h31 : t_emit_emitter_fan (⟨s0.settings, v18, s0.cells, s0.nozzle, s0.speed, s0.has, (FS.nil : (FS api_Cmd)), s0.code⟩ : emit_emitter) v10 with
                    | none => (rw [h31] at h; cases h)
                    | some v32 =>
                     simp only [h31] at h
                     have f33 := t_emit_emitter_fan_okN rfl h31
                     try simp only [fset_len, encF_nil, fcase_nil, fcase_lst, fcase_fsnoc, fcase_fapp, fcase_fset, fcase_frep, fcase_flit, fcase_flst] at f33
                     cases e35 : v32.out with
                     | nil =>
                      try simp only [e35, flen_nil] at h
                      simp only [e35, flen_nil, fcase_nil, fcase_lst] at f33
                      by_cases c36 : (ine v32.code 0) = true
                      · rw [if_pos c36] at h
                        cases h
                        show LK env [] 0 [6, 8, 23, 24, 25] c36_L0 (some (t_emit_Commands_L0_st _ _ _ _)) = some (t_emit_Commands_L0_out _ _ _ _)
                        simp only [t_emit_Commands_L0_st, t_emit_Commands_L0_out, e6]
                        rw [LK_step]
                        rcases tof v13 with a37 | a37
                        · try simp only [c7, a37, c36] at f33
                          simp (maxSteps := 4000000) [c7, a37, c36, e6, f8, f11, f16, f19, f33, e35]
                        · simp [c7, a37] at c14
                      · rw [if_neg c36] at h
                        rw [Bool.not_eq_true] at c36
                        cases h
                        show LK env [] 0 [6, 8, 23, 24, 25] c36_L0 (some (t_emit_Commands_L0_st _ _ _ _)) = LK env [] 0 [6, 8, 23, 24, 25] c36_L0 (some (t_emit_Commands_L0_st _ _ _ _))
                        simp only [t_emit_Commands_L0_st, e6]
                        rw [LK_step]
                        rcases tof v13 with a38 | a38
                        · try simp only [c7, a38, c36] at f33
                          simp (maxSteps := 4000000) [c7, a38, c36, e6, f8, f11, f16, f19, f33, e35]
                        · simp [c7, a38] at c14
                     | lst l34 =>
                      try simp only [e35] at h
                      simp only [e35, flen_nil, fcase_nil, fcase_lst] at f33
                      by_cases c39 : (ine v32.code 0) = true
                      · rw [if_pos c39] at h
                        cases h
                        show LK env [] 0 [6, 8, 23, 24, 25] c36_L0 (some (t_emit_Commands_L0_st _ _ _ _)) = some (t_emit_Commands_L0_out _ _ _ _)
                        simp only [t_emit_Commands_L0_st, t_emit_Commands_L0_out, e6]
                        rw [LK_step]
                        rcases tof v13 with a40 | a40
                        · try simp only [c7, a40, c39] at f33
                          simp (maxSteps := 4000000) [c7, a40, c39, e6, f8, f11, f16, f19, f33, e35]
                        · simp [c7, a40] at c14
                      · rw [if_neg c39] at h
                        rw [Bool.not_eq_true] at c39
                        cases h
                        show LK env [] 0 [6, 8, 23, 24, 25] c36_L0 (some (t_emit_Commands_L0_st _ _ _ _)) = LK env [] 0 [6, 8, 23, 24, 25] c36_L0 (some (t_emit_Commands_L0_st _ _ _ _))
                        simp only [t_emit_Commands_L0_st, e6]
                        rw [LK_step]
                        rcases tof v13 with a41 | a41
                        · try simp only [c7, a41, c39] at f33
                          simp (maxSteps := 4000000) [c7, a41, c39, e6, f8, f11, f16, f19, f33, e35]
                        · simp [c7, a41] at c14
                  · rw [if_neg h30] at h
                    by_cases h22 : v21 = 105
                    · rw [if_pos h22] at h
                      subst h22
                      cases h23 : t_emit_emitter_nothing (⟨s0.settings, v18, s0.cells, s0.nozzle, s0.speed, s0.has, (FS.nil : (FS api_Cmd)), s0.code⟩ : emit_emitter) v10 with
                      | none => (rw [h23] at h; cases h)
                      | some v24 =>
                       simp only [h23] at h
                       obtain ⟨f25, e26⟩ := t_emit_emitter_nothing_okN rfl h23
                       simp only [e26] at f25
                       try simp only [e26] at h
                       try simp only [fset_len, encF_nil, fcase_nil, fcase_lst, fcase_fsnoc, fcase_fapp, fcase_fset, fcase_frep, fcase_flit, fcase_flst] at f25
                       try simp only [fcase_nil, fcase_lst, fcase_fsnoc, fcase_fapp, fcase_fset, fcase_frep, fcase_flit, fcase_flst] at f25
                       by_cases c27 : (ine v24.code 0) = true
                       · rw [if_pos c27] at h
                         cases h
                         show LK env [] 0 [6, 8, 23, 24, 25] c36_L0 (some (t_emit_Commands_L0_st _ _ _ _)) = some (t_emit_Commands_L0_out _ _ _ _)
                         simp only [t_emit_Commands_L0_st, t_emit_Commands_L0_out, e6]
                         rw [LK_step]
                         rcases tof v13 with a28 | a28
                         · try simp only [c7, a28, c27] at f25
                           simp (maxSteps := 4000000) [c7, a28, c27, e6, f8, f11, f16, f19, e26, f25]
                         · simp [c7, a28] at c14
                       · rw [if_neg c27] at h
                         rw [Bool.not_eq_true] at c27
                         cases h
                         show LK env [] 0 [6, 8, 23, 24, 25] c36_L0 (some (t_emit_Commands_L0_st _ _ _ _)) = LK env [] 0 [6, 8, 23, 24, 25] c36_L0 (some (t_emit_Commands_L0_st _ _ _ _))
                         simp only [t_emit_Commands_L0_st, e6]
                         rw [LK_step]
                         rcases tof v13 with a29 | a29
                         · try simp only [c7, a29, c27] at f25
                           simp (maxSteps := 4000000) [c7, a29, c27, e6, f8, f11, f16, f19, e26, f25]
                         · simp [c7, a29] at c14
                    · rw [if_neg h22] at h
                      cases h
  · rw [if_neg c7] at h
    rw [Bool.not_eq_true] at c7
    cases h
    show LK env [] 0 [6, 8, 23, 24, 25] c36_L0 (some (t_emit_Commands_L0_st _ _ _ _)) = some (t_emit_Commands_L0_out _ _ _ _)
    simp only [t_emit_Commands_L0_st, t_emit_Commands_L0_out, e6]
    rw [LK_step]
    simp (maxSteps := 4000000) [c7, e6]
 | lst l5 =>
  try simp only [e6] at h
  by_cases c90 : (ilt s1 k2) = true
  · rw [if_pos c90] at h
    cases h92 : fget k1 s1 with
    | none => (rw [h92] at h; cases h)
    | some v93 =>
     simp only [h92] at h
     have f91 := iaddr_F (e := e_api_Op) h92
     cases h95 : t_emit_inside v93.Cells with
     | none => (rw [h95] at h; cases h)
     | some v96 =>
      simp only [h95] at h
      have f94 := t_emit_inside_ok h95
      by_cases c97 : (bnot v96) = true
      · rw [if_pos c97] at h
        cases h
        show LK env [] 0 [6, 8, 23, 24, 25] c36_L0 (some (t_emit_Commands_L0_st _ _ _ _)) = some (t_emit_Commands_L0_out _ _ _ _)
        simp only [t_emit_Commands_L0_st, t_emit_Commands_L0_out, e6]
        rw [LK_step]
        rcases tof v96 with a98 | a98
        · simp [c90, a98] at c97
        · simp (maxSteps := 4000000) [c90, a98, e6, f91, f94]
      · rw [if_neg c97] at h
        rw [Bool.not_eq_true] at c97
        cases h100 : fget k0 s1 with
        | none => (rw [h100] at h; cases h)
        | some v101 =>
         simp only [h100] at h
         have f99 := iaddr_F (e := e_i64) h100
         cases h103 : t_emit_handler v93.Kind with
         | none => (rw [h103] at h; cases h)
         | some v104 =>
          simp only [h103] at h
          have f102 := t_emit_handler_ok h103
          by_cases h150 : v104 = 100
          · rw [if_pos h150] at h
            subst h150
            cases h151 : t_emit_emitter_layer (⟨s0.settings, v101, s0.cells, s0.nozzle, s0.speed, s0.has, (FS.lst l5), s0.code⟩ : emit_emitter) v93 with
            | none => (rw [h151] at h; cases h)
            | some v152 =>
             simp only [h151] at h
             obtain ⟨f153, ⟨l155, e154⟩⟩ := t_emit_emitter_layer_okO rfl h151
             simp only [e154] at f153
             try simp only [e154] at h
             try simp only [fset_len, encF_nil, fcase_nil, fcase_lst, fcase_fsnoc, fcase_fapp, fcase_fset, fcase_frep, fcase_flit, fcase_flst] at f153
             try simp only [fcase_nil, fcase_lst, fcase_fsnoc, fcase_fapp, fcase_fset, fcase_frep, fcase_flit, fcase_flst] at f153
             by_cases c156 : (ine v152.code 0) = true
             · rw [if_pos c156] at h
               cases h
               show LK env [] 0 [6, 8, 23, 24, 25] c36_L0 (some (t_emit_Commands_L0_st _ _ _ _)) = some (t_emit_Commands_L0_out _ _ _ _)
               simp only [t_emit_Commands_L0_st, t_emit_Commands_L0_out, e6]
               rw [LK_step]
               rcases tof v96 with a157 | a157
               · try simp only [c90, a157, c156] at f153
                 simp (maxSteps := 4000000) [c90, a157, c156, e6, f91, f94, f99, f102, e154, f153]
               · simp [c90, a157] at c97
             · rw [if_neg c156] at h
               rw [Bool.not_eq_true] at c156
               cases h
               show LK env [] 0 [6, 8, 23, 24, 25] c36_L0 (some (t_emit_Commands_L0_st _ _ _ _)) = LK env [] 0 [6, 8, 23, 24, 25] c36_L0 (some (t_emit_Commands_L0_st _ _ _ _))
               simp only [t_emit_Commands_L0_st, e6]
               rw [LK_step]
               rcases tof v96 with a158 | a158
               · try simp only [c90, a158, c156] at f153
                 simp (maxSteps := 4000000) [c90, a158, c156, e6, f91, f94, f99, f102, e154, f153]
               · simp [c90, a158] at c97
          · rw [if_neg h150] at h
            by_cases h141 : v104 = 101
            · rw [if_pos h141] at h
              subst h141
              cases h142 : t_emit_emitter_travel (⟨s0.settings, v101, s0.cells, s0.nozzle, s0.speed, s0.has, (FS.lst l5), s0.code⟩ : emit_emitter) v93 with
              | none => (rw [h142] at h; cases h)
              | some v143 =>
               simp only [h142] at h
               obtain ⟨f144, ⟨l146, e145⟩⟩ := t_emit_emitter_travel_okO rfl h142
               simp only [e145] at f144
               try simp only [e145] at h
               try simp only [fset_len, encF_nil, fcase_nil, fcase_lst, fcase_fsnoc, fcase_fapp, fcase_fset, fcase_frep, fcase_flit, fcase_flst] at f144
               try simp only [fcase_nil, fcase_lst, fcase_fsnoc, fcase_fapp, fcase_fset, fcase_frep, fcase_flit, fcase_flst] at f144
               by_cases c147 : (ine v143.code 0) = true
               · rw [if_pos c147] at h
                 cases h
                 show LK env [] 0 [6, 8, 23, 24, 25] c36_L0 (some (t_emit_Commands_L0_st _ _ _ _)) = some (t_emit_Commands_L0_out _ _ _ _)
                 simp only [t_emit_Commands_L0_st, t_emit_Commands_L0_out, e6]
                 rw [LK_step]
                 rcases tof v96 with a148 | a148
                 · try simp only [c90, a148, c147] at f144
                   simp (maxSteps := 4000000) [c90, a148, c147, e6, f91, f94, f99, f102, e145, f144]
                 · simp [c90, a148] at c97
               · rw [if_neg c147] at h
                 rw [Bool.not_eq_true] at c147
                 cases h
                 show LK env [] 0 [6, 8, 23, 24, 25] c36_L0 (some (t_emit_Commands_L0_st _ _ _ _)) = LK env [] 0 [6, 8, 23, 24, 25] c36_L0 (some (t_emit_Commands_L0_st _ _ _ _))
                 simp only [t_emit_Commands_L0_st, e6]
                 rw [LK_step]
                 rcases tof v96 with a149 | a149
                 · try simp only [c90, a149, c147] at f144
                   simp (maxSteps := 4000000) [c90, a149, c147, e6, f91, f94, f99, f102, e145, f144]
                 · simp [c90, a149] at c97
            · rw [if_neg h141] at h
              by_cases h132 : v104 = 102
              · rw [if_pos h132] at h
                subst h132
                cases h133 : t_emit_emitter_print (⟨s0.settings, v101, s0.cells, s0.nozzle, s0.speed, s0.has, (FS.lst l5), s0.code⟩ : emit_emitter) v93 with
                | none => (rw [h133] at h; cases h)
                | some v134 =>
                 simp only [h133] at h
                 obtain ⟨f135, ⟨l137, e136⟩⟩ := t_emit_emitter_print_okO rfl h133
                 simp only [e136] at f135
                 try simp only [e136] at h
                 try simp only [fset_len, encF_nil, fcase_nil, fcase_lst, fcase_fsnoc, fcase_fapp, fcase_fset, fcase_frep, fcase_flit, fcase_flst] at f135
                 try simp only [fcase_nil, fcase_lst, fcase_fsnoc, fcase_fapp, fcase_fset, fcase_frep, fcase_flit, fcase_flst] at f135
                 by_cases c138 : (ine v134.code 0) = true
                 · rw [if_pos c138] at h
                   cases h
                   show LK env [] 0 [6, 8, 23, 24, 25] c36_L0 (some (t_emit_Commands_L0_st _ _ _ _)) = some (t_emit_Commands_L0_out _ _ _ _)
                   simp only [t_emit_Commands_L0_st, t_emit_Commands_L0_out, e6]
                   rw [LK_step]
                   rcases tof v96 with a139 | a139
                   · try simp only [c90, a139, c138] at f135
                     simp (maxSteps := 4000000) [c90, a139, c138, e6, f91, f94, f99, f102, e136, f135]
                   · simp [c90, a139] at c97
                 · rw [if_neg c138] at h
                   rw [Bool.not_eq_true] at c138
                   cases h
                   show LK env [] 0 [6, 8, 23, 24, 25] c36_L0 (some (t_emit_Commands_L0_st _ _ _ _)) = LK env [] 0 [6, 8, 23, 24, 25] c36_L0 (some (t_emit_Commands_L0_st _ _ _ _))
                   simp only [t_emit_Commands_L0_st, e6]
                   rw [LK_step]
                   rcases tof v96 with a140 | a140
                   · try simp only [c90, a140, c138] at f135
                     simp (maxSteps := 4000000) [c90, a140, c138, e6, f91, f94, f99, f102, e136, f135]
                   · simp [c90, a140] at c97
              · rw [if_neg h132] at h
                by_cases h123 : v104 = 103
                · rw [if_pos h123] at h
                  subst h123
                  cases h124 : t_emit_emitter_feed (⟨s0.settings, v101, s0.cells, s0.nozzle, s0.speed, s0.has, (FS.lst l5), s0.code⟩ : emit_emitter) v93 with
                  | none => (rw [h124] at h; cases h)
                  | some v125 =>
                   simp only [h124] at h
                   obtain ⟨f126, ⟨l128, e127⟩⟩ := t_emit_emitter_feed_okO rfl h124
                   simp only [e127] at f126
                   try simp only [e127] at h
                   try simp only [fset_len, encF_nil, fcase_nil, fcase_lst, fcase_fsnoc, fcase_fapp, fcase_fset, fcase_frep, fcase_flit, fcase_flst] at f126
                   try simp only [fcase_nil, fcase_lst, fcase_fsnoc, fcase_fapp, fcase_fset, fcase_frep, fcase_flit, fcase_flst] at f126
                   by_cases c129 : (ine v125.code 0) = true
                   · rw [if_pos c129] at h
                     cases h
                     show LK env [] 0 [6, 8, 23, 24, 25] c36_L0 (some (t_emit_Commands_L0_st _ _ _ _)) = some (t_emit_Commands_L0_out _ _ _ _)
                     simp only [t_emit_Commands_L0_st, t_emit_Commands_L0_out, e6]
                     rw [LK_step]
                     rcases tof v96 with a130 | a130
                     · try simp only [c90, a130, c129] at f126
                       simp (maxSteps := 4000000) [c90, a130, c129, e6, f91, f94, f99, f102, e127, f126]
                     · simp [c90, a130] at c97
                   · rw [if_neg c129] at h
                     rw [Bool.not_eq_true] at c129
                     cases h
                     show LK env [] 0 [6, 8, 23, 24, 25] c36_L0 (some (t_emit_Commands_L0_st _ _ _ _)) = LK env [] 0 [6, 8, 23, 24, 25] c36_L0 (some (t_emit_Commands_L0_st _ _ _ _))
                     simp only [t_emit_Commands_L0_st, e6]
                     rw [LK_step]
                     rcases tof v96 with a131 | a131
                     · try simp only [c90, a131, c129] at f126
                       simp (maxSteps := 4000000) [c90, a131, c129, e6, f91, f94, f99, f102, e127, f126]
                     · simp [c90, a131] at c97
                · rw [if_neg h123] at h
                  by_cases h114 : v104 = 104
                  · rw [if_pos h114] at h
                    subst h114
                    cases h115 : t_emit_emitter_fan (⟨s0.settings, v101, s0.cells, s0.nozzle, s0.speed, s0.has, (FS.lst l5), s0.code⟩ : emit_emitter) v93 with
                    | none => (rw [h115] at h; cases h)
                    | some v116 =>
                     simp only [h115] at h
                     obtain ⟨f117, ⟨l119, e118⟩⟩ := t_emit_emitter_fan_okO rfl h115
                     simp only [e118] at f117
                     try simp only [e118] at h
                     try simp only [fset_len, encF_nil, fcase_nil, fcase_lst, fcase_fsnoc, fcase_fapp, fcase_fset, fcase_frep, fcase_flit, fcase_flst] at f117
                     try simp only [fcase_nil, fcase_lst, fcase_fsnoc, fcase_fapp, fcase_fset, fcase_frep, fcase_flit, fcase_flst] at f117
                     by_cases c120 : (ine v116.code 0) = true
                     · rw [if_pos c120] at h
                       cases h
                       show LK env [] 0 [6, 8, 23, 24, 25] c36_L0 (some (t_emit_Commands_L0_st _ _ _ _)) = some (t_emit_Commands_L0_out _ _ _ _)
                       simp only [t_emit_Commands_L0_st, t_emit_Commands_L0_out, e6]
                       rw [LK_step]
                       rcases tof v96 with a121 | a121
                       · try simp only [c90, a121, c120] at f117
                         simp (maxSteps := 4000000) [c90, a121, c120, e6, f91, f94, f99, f102, e118, f117]
                       · simp [c90, a121] at c97
                     · rw [if_neg c120] at h
                       rw [Bool.not_eq_true] at c120
                       cases h
                       show LK env [] 0 [6, 8, 23, 24, 25] c36_L0 (some (t_emit_Commands_L0_st _ _ _ _)) = LK env [] 0 [6, 8, 23, 24, 25] c36_L0 (some (t_emit_Commands_L0_st _ _ _ _))
                       simp only [t_emit_Commands_L0_st, e6]
                       rw [LK_step]
                       rcases tof v96 with a122 | a122
                       · try simp only [c90, a122, c120] at f117
                         simp (maxSteps := 4000000) [c90, a122, c120, e6, f91, f94, f99, f102, e118, f117]
                       · simp [c90, a122] at c97
                  · rw [if_neg h114] at h
                    by_cases h105 : v104 = 105
                    · rw [if_pos h105] at h
                      subst h105
                      cases h106 : t_emit_emitter_nothing (⟨s0.settings, v101, s0.cells, s0.nozzle, s0.speed, s0.has, (FS.lst l5), s0.code⟩ : emit_emitter) v93 with
                      | none => (rw [h106] at h; cases h)
                      | some v107 =>
                       simp only [h106] at h
                       obtain ⟨f108, ⟨l110, e109⟩⟩ := t_emit_emitter_nothing_okO rfl h106
                       simp only [e109] at f108
                       try simp only [e109] at h
                       try simp only [fset_len, encF_nil, fcase_nil, fcase_lst, fcase_fsnoc, fcase_fapp, fcase_fset, fcase_frep, fcase_flit, fcase_flst] at f108
                       try simp only [fcase_nil, fcase_lst, fcase_fsnoc, fcase_fapp, fcase_fset, fcase_frep, fcase_flit, fcase_flst] at f108
                       by_cases c111 : (ine v107.code 0) = true
                       · rw [if_pos c111] at h
                         cases h
                         show LK env [] 0 [6, 8, 23, 24, 25] c36_L0 (some (t_emit_Commands_L0_st _ _ _ _)) = some (t_emit_Commands_L0_out _ _ _ _)
                         simp only [t_emit_Commands_L0_st, t_emit_Commands_L0_out, e6]
                         rw [LK_step]
                         rcases tof v96 with a112 | a112
                         · try simp only [c90, a112, c111] at f108
                           simp (maxSteps := 4000000) [c90, a112, c111, e6, f91, f94, f99, f102, e109, f108]
                         · simp [c90, a112] at c97
                       · rw [if_neg c111] at h
                         rw [Bool.not_eq_true] at c111
                         cases h
                         show LK env [] 0 [6, 8, 23, 24, 25] c36_L0 (some (t_emit_Commands_L0_st _ _ _ _)) = LK env [] 0 [6, 8, 23, 24, 25] c36_L0 (some (t_emit_Commands_L0_st _ _ _ _))
                         simp only [t_emit_Commands_L0_st, e6]
                         rw [LK_step]
                         rcases tof v96 with a113 | a113
                         · try simp only [c90, a113, c111] at f108
                           simp (maxSteps := 4000000) [c90, a113, c111, e6, f91, f94, f99, f102, e109, f108]
                         · simp [c90, a113] at c97
                    · rw [if_neg h105] at h
                      cases h
  · rw [if_neg c90] at h
    rw [Bool.not_eq_true] at c90
    cases h
    show LK env [] 0 [6, 8, 23, 24, 25] c36_L0 (some (t_emit_Commands_L0_st _ _ _ _)) = some (t_emit_Commands_L0_out _ _ _ _)
    simp only [t_emit_Commands_L0_st, t_emit_Commands_L0_out, e6]
    rw [LK_step]
    simp (maxSteps := 4000000) [c90, e6]) bigN s r h
def t_emit_Commands (p0 : (FS api_Op)) (p1 : api_Settings) : Option ((FS api_Cmd) × Int) := (match t_flow_Amounts p0 p1 with
 | none => none
 | some v3 => (if (ine v3.2 0) = true then some ((FS.nil : (FS api_Cmd)), v3.2)
 else (match loopT (t_emit_Commands_L0 v3.1 p0 (flen p0)) bigN ((⟨p1, 0, 0, (⟨0, 0⟩ : api_Cell), 0, false, (FS.nil : (FS api_Cmd)), 0⟩ : emit_emitter), 0) with
 | none => none
 | some v50 => (match v50 with
 | .inl v50x => some ((FS.nil : (FS api_Cmd)), v50x.2)
 | .inr v50x => some (v50x.out, 0)))))
theorem t_emit_Commands_ok {p0 : (FS api_Op)} {p1 : api_Settings} {r : ((FS api_Cmd) × Int)} (h : t_emit_Commands p0 p1 = some r) : FC env 36 [encF e_api_Op p0, .agg [.int .i64 p1.Pitch, .int .i64 p1.Height, .int .i64 p1.Walls, .int .i64 p1.Top, .int .i64 p1.Bottom, .int .i64 p1.Pattern, .int .i64 p1.Spacing, .bool p1.Support, .int .i64 p1.Reach, .int .i64 p1.Gap, .int .i64 p1.Brim, .int .i64 p1.Skirt, .int .i64 p1.Drop, .int .i64 p1.Feed, .int .i64 p1.Travel, .int .i64 p1.Retract, .int .i64 p1.MinTime, .int .i64 p1.MinFeed, .int .i64 p1.Nozzle, .int .i64 p1.Bed]] none = some (.tup [encF e_api_Cmd r.1, .int .i64 r.2], fun _ => none) := by
 unfold t_emit_Commands at h
 cases h2 : t_flow_Amounts p0 p1 with
 | none => (rw [h2] at h; cases h)
 | some v3 =>
  simp only [h2] at h
  have f1 := t_flow_Amounts_ok h2
  by_cases c4 : (ine v3.2 0) = true
  · rw [if_pos c4] at h
    cases h
    refine FC_pure (lf := lf36) rfl rfl rfl ?_
    simp only [lf36, lc36]
    simp (maxSteps := 4000000) [c4, f1, snap_tupE, tupS, snap7_int, snap7_bool, snap7_str, snap7_nils, snap7_agg]
  · rw [if_neg c4] at h
    rw [Bool.not_eq_true] at c4
    cases h159 : loopT (t_emit_Commands_L0 v3.1 p0 (flen p0)) bigN ((⟨p1, 0, 0, (⟨0, 0⟩ : api_Cell), 0, false, (FS.nil : (FS api_Cmd)), 0⟩ : emit_emitter), 0) with
    | none => (rw [h159] at h; cases h)
    | some v160 =>
     simp only [h159] at h
     have f161 := t_emit_Commands_L0_ok h159
     cases v160 with
     | inl v160x =>
      try simp only at h
      simp only [t_emit_Commands_L0_st, t_emit_Commands_L0_out, fset_len] at f161
      try simp only [fcase_nil, fcase_lst, fcase_fsnoc, fcase_fapp, fcase_fset, fcase_frep, fcase_flit, fcase_flst] at f161
      cases h
      refine FC_pure (lf := lf36) rfl rfl rfl ?_
      simp only [lf36, lc36]
      try simp only [c4] at f161
      simp (maxSteps := 4000000) [c4, f1, f161, snap_tupE, tupS, snap7_int, snap7_bool, snap7_str, snap7_nils, snap7_agg]
     | inr v160x =>
      try simp only at h
      simp only [t_emit_Commands_L0_st, t_emit_Commands_L0_out, fset_len] at f161
      cases e163 : v160x.out with
      | nil =>
       try simp only [e163, flen_nil] at h
       simp only [e163, flen_nil, fcase_nil, fcase_lst] at f161
       cases h
       refine FC_pure (lf := lf36) rfl rfl rfl ?_
       simp only [lf36, lc36]
       try simp only [c4] at f161
       simp (maxSteps := 4000000) [c4, f1, f161, e163, snap_tupE, tupS, snap7_int, snap7_bool, snap7_str, snap7_nils, snap7_agg]
      | lst l162 =>
       try simp only [e163] at h
       simp only [e163, flen_nil, fcase_nil, fcase_lst] at f161
       cases h
       refine FC_pure (lf := lf36) rfl rfl rfl ?_
       simp only [lf36, lc36]
       try simp only [c4] at f161
       simp (maxSteps := 4000000) [c4, f1, f161, e163, snap_row7 (e := e_api_Cmd) (el := 55) (fz := false), snap_tupE, tupS, snap7_int, snap7_bool, snap7_str, snap7_nils, snap7_agg]

/-! additivelaw40.awake -/
def u_additivelaw40_awake : Bool := true
theorem u_additivelaw40_awake_ok : FC env 39 [] none = some (.bool u_additivelaw40_awake, fun _ => none) := FC_iff.2 ⟨60, by kernel_rfl⟩

/-! additiveref39.Codes -/
attribute [simp] c108_0 c108_1
def u_additiveref39_Codes  : (FS Int) := (flit ([0, 1, 4, 28, 1024, 1025, 1104, 1106, 1107, 1109, 1112, 1140, 1190, 1999] : List Int))
def t_additiveref39_Codes  : Option (FS Int) := some (u_additiveref39_Codes )
theorem u_additiveref39_Codes_ok  : FC env 108 [] none = some (encF e_i64 (u_additiveref39_Codes ), fun _ => none) := by
 unfold u_additiveref39_Codes
 have f1 : ∀ (H : Heap) (g0 : Nat), bslV H g0 14 1 3 (some [.int .i64 0, .int .i64 1, .int .i64 4, .int .i64 28, .int .i64 1024, .int .i64 1025, .int .i64 1104, .int .i64 1106, .int .i64 1107, .int .i64 1109, .int .i64 1112, .int .i64 1140, .int .i64 1190, .int .i64 1999]) = some (.arr g0 (newVer H g0) 0 (flit ([0, 1, 4, 28, 1024, 1025, 1104, 1106, 1107, 1109, 1112, 1140, 1190, 1999] : List Int)).l.length, upd H g0 (some (.arr (newVer H g0) 1 3 (cellsE e_i64 (flit ([0, 1, 4, 28, 1024, 1025, 1104, 1106, 1107, 1109, 1112, 1140, 1190, 1999] : List Int)).l) false))) := fun H g0 => rfl
 refine FC_pure (lf := lf108) rfl rfl rfl ?_
 simp only [lf108, lc108]
 simp (maxSteps := 4000000) [f1, snap_rowD (e := e_i64) (el := 3) (fz := false)]
theorem t_additiveref39_Codes_ok {r : (FS Int)} (h : t_additiveref39_Codes  = some r) : FC env 108 [] none = some (encF e_i64 r, fun _ => none) := by
 cases h
 exact u_additiveref39_Codes_ok 
end Go.Proofs.Ytchiiiahgmfofaa
