/- Typed functions of this seat, each with the proof that the code computes it; by program (tg3.py). -/
import Derived.Test.YtchiiiahgmfofaaCode
import Derived.Test.YtchiiiahgmfofaaVt
import Derived.KernelRfl
namespace Go.Proofs.Ytchiiiahgmfofaa
open Go Go.Vv Go.Proofs
set_option linter.unusedSimpArgs false
set_option linter.unusedVariables false
set_option maxRecDepth 100000
set_option maxHeartbeats 4000000
def e_i64 (x : Int) : List AV := [.int .i64 x]
instance : EncOK 1 e_i64 := ⟨fun _ => rfl, fun _ => by simp [e_i64]⟩
structure api_Run where
  From : Int
  To : Int
def e_api_Run (x : api_Run) : List AV := [.int .i64 x.From, .int .i64 x.To]
instance : EncOK 2 e_api_Run := ⟨fun _ => rfl, fun _ => by simp [e_api_Run]⟩
def e_sl_api_Run (x : (FS api_Run)) : List AV := [encF e_api_Run x]
instance : EncOK 1 e_sl_api_Run := ⟨fun _ => rfl, fun _ => by simp [e_sl_api_Run]⟩
structure api_Row where
  Y : Int
  Runs : (FS api_Run)
def e_api_Row (x : api_Row) : List AV := [.int .i64 x.Y, encF e_api_Run x.Runs]
instance : EncOK 2 e_api_Row := ⟨fun _ => rfl, fun _ => by simp [e_api_Row]⟩
def e_sl_api_Row (x : (FS api_Row)) : List AV := [encF e_api_Row x]
instance : EncOK 1 e_sl_api_Row := ⟨fun _ => rfl, fun _ => by simp [e_sl_api_Row]⟩
structure api_Region where
  Rows : (FS api_Row)
def e_api_Region (x : api_Region) : List AV := [encF e_api_Row x.Rows]
instance : EncOK 1 e_api_Region := ⟨fun _ => rfl, fun _ => by simp [e_api_Region]⟩
structure api_Cell where
  X : Int
  Y : Int
def e_api_Cell (x : api_Cell) : List AV := [.int .i64 x.X, .int .i64 x.Y]
instance : EncOK 2 e_api_Cell := ⟨fun _ => rfl, fun _ => by simp [e_api_Cell]⟩
def k_api_Cell (x : api_Cell) : AV := .agg [.int .i64 x.X, .int .i64 x.Y]
def q_api_Cell (a b : api_Cell) : Bool := (band (ieq a.X b.X) (band (ieq a.Y b.Y) true))
instance : KeyOK true [false, false] k_api_Cell q_api_Cell := ⟨fun a b => by simp [k_api_Cell, q_api_Cell], fun a => by simp [k_api_Cell, AV.noNm, noNmL]⟩
def v_api_Cell (x : api_Cell) : AV := .agg [.int .i64 x.X, .int .i64 x.Y]
instance : ValOK v_api_Cell := ⟨fun v => by simp [v_api_Cell, AV.noNm, noNmL]⟩
structure A4 (α : Type) where
  a0 : α
  a1 : α
  a2 : α
  a3 : α
def A4.toL {α : Type} (x : A4 α) : List α := [x.a0, x.a1, x.a2, x.a3]
def A4.get {α : Type} (x : A4 α) (i : Int) : α := if i = 0 then x.a0 else if i = 1 then x.a1 else if i = 2 then x.a2 else x.a3
def A4.set {α : Type} (x : A4 α) (i : Int) (v : α) : A4 α := if i = 0 then { x with a0 := v } else if i = 1 then { x with a1 := v } else if i = 2 then { x with a2 := v } else { x with a3 := v }
section
variable {α : Type} {w : Nat} {e : α → List AV} [hE : EncOK w e]
include hE
theorem pack_A4 (x : A4 α) {i : Int} (hi : inB i 4 = true) (P Q : List AV) (hw : 0 < w) (ag : Bool) : pack ag (P ++ (cellsE e x.toL ++ Q)) (aOff P.length w i) w = pack ag (e (x.get i)) 0 w :=
  pack_mid (e := e) (l := x.toL) (by
    have hc : i = 0 ∨ i = 1 ∨ i = 2 ∨ i = 3 := by rw [inB_iff] at hi; omega
    rcases hc with rfl | rfl | rfl | rfl <;> rfl) P Q hw ag
theorem paste_A4 (x : A4 α) {i : Int} (hi : inB i 4 = true) (P Q : List AV) (y : α) : paste (P ++ (cellsE e x.toL ++ Q)) (aOff P.length w i) (e y) = P ++ (cellsE e (x.set i y).toL ++ Q) := by
  have hc : i = 0 ∨ i = 1 ∨ i = 2 ∨ i = 3 := by rw [inB_iff] at hi; omega
  have hs : (x.set i y).toL = x.toL.set i.toNat y := by rcases hc with rfl | rfl | rfl | rfl <;> rfl
  rw [hs]
  exact paste_mid (e := e) (l := x.toL) (by have hx : x.toL.length = 4 := rfl; rw [inB_iff] at hi; omega) P Q y
end
structure additiveref34_seen where
  cell : api_Cell
  before : Int
def e_additiveref34_seen (x : additiveref34_seen) : List AV := [.int .i64 x.cell.X, .int .i64 x.cell.Y, .int .i64 x.before]
instance : EncOK 3 e_additiveref34_seen := ⟨fun _ => rfl, fun _ => by simp [e_additiveref34_seen]⟩

/-! additiveref18.fine -/
theorem c88_L0_u (Γ : Env) (ps : List Nat) (σ : St) : EC Γ ps 0 c88_L0 σ = EC Γ ps 0 (.seq (.seq (.reg false c88_2) (.cond (.t 7) .skip (.seq (.trim [0]) (.exit 0)))) (.seq (.blk 1 (.seq (.reg true c88_3) (.cond (.t 54) (.seq (.reg false c88_4) (.seq (.trim [2]) .ret)) .skip))) (.reg false c88_5))) σ := rfl
def t_additiveref18_fine_L0 (k0 : (FS api_Run)) (s : Int) : Option (LR Int (Bool ⊕ Unit)) := match s with
 | s0 => (if (ilt s0 (flen k0)) = true then (match fget k0 s0 with
 | none => none
 | some v4 => (match gOpt (band (bnot (bor (bor (ilt v4.From (-4096)) (ige v4.From v4.To)) (igt v4.To 4096))) (igt s0 0)) (fget k0 (isub .i64 s0 1)) with
 | none => none
 | some v11 => (if (bor (bor (bor (ilt v4.From (-4096)) (ige v4.From v4.To)) (igt v4.To 4096)) (band (igt s0 0) (ile v4.From (((v11.getD (⟨0, 0⟩ : api_Run))).To)))) = true then some (.dn (.inl false))
 else some (.nx (iadd .i64 s0 1)))))
 else some (.dn (.inr ())))
def t_additiveref18_fine_L0_st (k0 : (FS api_Run)) (s : Int) : St := match s with
 | s0 => ⟨fr [(0, encF e_api_Run k0), (3, .int .i64 s0)], hl []⟩
def t_additiveref18_fine_L0_out (k0 : (FS api_Run)) (x : (Bool ⊕ Unit)) : LE × St := match x with
 | .inl x => (.ret, ⟨fr [(2, .bool x)], hl []⟩)
 | .inr x => (.exit 0, ⟨fr [(0, encF e_api_Run k0)], hl []⟩)
theorem t_additiveref18_fine_L0_ok {k0 : (FS api_Run)} {s : Int} {r : (Bool ⊕ Unit)} (h : loopT (t_additiveref18_fine_L0 k0) bigN s = some r) : LK env [] 0 [0, 3] c88_L0 (some (t_additiveref18_fine_L0_st k0 s)) = some (t_additiveref18_fine_L0_out k0 r) := loop_walk (st := t_additiveref18_fine_L0_st k0) (out := t_additiveref18_fine_L0_out k0) (by
  clear h s r
  rintro s0 x h
  simp only [t_additiveref18_fine_L0] at h
  by_cases c1 : (ilt s0 (flen k0)) = true
  · rw [if_pos c1] at h
    cases h3 : fget k0 s0 with
    | none => (rw [h3] at h; cases h)
    | some v4 =>
      simp only [h3] at h
      have f2 := iaddr_F (e := e_api_Run) h3
      cases h10 : gOpt (band (bnot (bor (bor (ilt v4.From (-4096)) (ige v4.From v4.To)) (igt v4.To 4096))) (igt s0 0)) (fget k0 (isub .i64 s0 1)) with
      | none => (rw [h10] at h; cases h)
      | some v11 =>
        simp only [h10] at h
        have f9 := fun (q0 : (bor (bor (ilt v4.From (-4096)) (ige v4.From v4.To)) (igt v4.To 4096)) = false) (q1 : (igt s0 0) = true) => iaddr_F (e := e_api_Run) (gOpt_getD (⟨0, 0⟩ : api_Run) h10 (band_mk (bnot_mk q0) q1))
        by_cases c12 : (bor (bor (bor (ilt v4.From (-4096)) (ige v4.From v4.To)) (igt v4.To 4096)) (band (igt s0 0) (ile v4.From (((v11.getD (⟨0, 0⟩ : api_Run))).To)))) = true
        · rw [if_pos c12] at h
          cases h
          show LK env [] 0 [0, 3] c88_L0 (some (t_additiveref18_fine_L0_st _ _)) = some (t_additiveref18_fine_L0_out _ _)
          simp only [t_additiveref18_fine_L0_st, t_additiveref18_fine_L0_out]
          rw [LK_step]
          rcases tof (ilt v4.From (-4096)) with a13 | a13
          · simp (maxSteps := 4000000) [c1, a13, f2, f9, e_i64, e_sl_api_Row, e_sl_api_Run, e_api_Cell, e_api_Region, e_api_Row, e_api_Run, ↓c88_L0_u, c88_0, c88_1, c88_2, c88_3, c88_4, c88_5, c88_7]
          · rcases tof (ige v4.From v4.To) with a14 | a14
            · simp (maxSteps := 4000000) [c1, a13, a14, f2, f9, e_i64, e_sl_api_Row, e_sl_api_Run, e_api_Cell, e_api_Region, e_api_Row, e_api_Run, ↓c88_L0_u, c88_0, c88_1, c88_2, c88_3, c88_4, c88_5, c88_7]
            · rcases tof (igt v4.To 4096) with a15 | a15
              · simp (maxSteps := 4000000) [c1, a13, a14, a15, f2, f9, e_i64, e_sl_api_Row, e_sl_api_Run, e_api_Cell, e_api_Region, e_api_Row, e_api_Run, ↓c88_L0_u, c88_0, c88_1, c88_2, c88_3, c88_4, c88_5, c88_7]
              · rcases tof (igt s0 0) with a16 | a16
                · rcases tof (ile v4.From (((v11.getD (⟨0, 0⟩ : api_Run))).To)) with a17 | a17
                  · simp (maxSteps := 4000000) [c1, a13, a14, a15, a16, a17, f2, f9, e_i64, e_sl_api_Row, e_sl_api_Run, e_api_Cell, e_api_Region, e_api_Row, e_api_Run, ↓c88_L0_u, c88_0, c88_1, c88_2, c88_3, c88_4, c88_5, c88_7]
                  · simp [c1, a13, a14, a15, a16, a17] at c12
                · simp [c1, a13, a14, a15, a16] at c12
        · rw [if_neg c12] at h
          rw [Bool.not_eq_true] at c12
          cases h
          show LK env [] 0 [0, 3] c88_L0 (some (t_additiveref18_fine_L0_st _ _)) = LK env [] 0 [0, 3] c88_L0 (some (t_additiveref18_fine_L0_st _ _))
          simp only [t_additiveref18_fine_L0_st]
          rw [LK_step]
          rcases tof (ilt v4.From (-4096)) with a18 | a18
          · simp [c1, a18] at c12
          · rcases tof (ige v4.From v4.To) with a19 | a19
            · simp [c1, a18, a19] at c12
            · rcases tof (igt v4.To 4096) with a20 | a20
              · simp [c1, a18, a19, a20] at c12
              · rcases tof (igt s0 0) with a21 | a21
                · rcases tof (ile v4.From (((v11.getD (⟨0, 0⟩ : api_Run))).To)) with a22 | a22
                  · simp [c1, a18, a19, a20, a21, a22] at c12
                  · simp (maxSteps := 4000000) [c1, a18, a19, a20, a21, a22, f2, f9, e_i64, e_sl_api_Row, e_sl_api_Run, e_api_Cell, e_api_Region, e_api_Row, e_api_Run, ↓c88_L0_u, c88_0, c88_1, c88_2, c88_3, c88_4, c88_5, c88_7]
                · simp (maxSteps := 4000000) [c1, a18, a19, a20, a21, f2, f9, e_i64, e_sl_api_Row, e_sl_api_Run, e_api_Cell, e_api_Region, e_api_Row, e_api_Run, ↓c88_L0_u, c88_0, c88_1, c88_2, c88_3, c88_4, c88_5, c88_7]
  · rw [if_neg c1] at h
    rw [Bool.not_eq_true] at c1
    cases h
    show LK env [] 0 [0, 3] c88_L0 (some (t_additiveref18_fine_L0_st _ _)) = some (t_additiveref18_fine_L0_out _ _)
    simp only [t_additiveref18_fine_L0_st, t_additiveref18_fine_L0_out]
    rw [LK_step]
    simp (maxSteps := 4000000) [c1, e_i64, e_sl_api_Row, e_sl_api_Run, e_api_Cell, e_api_Region, e_api_Row, e_api_Run, ↓c88_L0_u, c88_0, c88_1, c88_2, c88_3, c88_4, c88_5, c88_7]) bigN s r h
def t_additiveref18_fine (p0 : (FS api_Run)) : Option Bool := (match loopT (t_additiveref18_fine_L0 p0) bigN 0 with
 | none => none
 | some v14 => (match v14 with
 | .inl v14x => some v14x
 | .inr v14x => some (igt (flen p0) 0)))
theorem t_additiveref18_fine_ok {p0 : (FS api_Run)} {r : Bool} (h : t_additiveref18_fine p0 = some r) : FC env 88 [encF e_api_Run p0] none = some (.bool r, fun _ => none) := by
  unfold t_additiveref18_fine at h
  cases h23 : loopT (t_additiveref18_fine_L0 p0) bigN 0 with
  | none => (rw [h23] at h; cases h)
  | some v24 =>
    simp only [h23] at h
    have f25 := t_additiveref18_fine_L0_ok h23
    cases v24 with
    | inl v24x =>
      try simp only at h
      simp only [t_additiveref18_fine_L0_st, t_additiveref18_fine_L0_out] at f25
      try simp only [fcase_nil, fcase_lst, fcase_fsnoc, fcase_fapp, fcase_fset, fcase_frep, fcase_flit, fcase_flst] at f25
      cases h
      refine FC_pure (lf := lf88) rfl rfl rfl ?_
      simp only [lf88, lc88, c88_0, c88_1, c88_2, c88_3, c88_4, c88_5, c88_7]
      simp (maxSteps := 4000000) [f25, e_i64, e_sl_api_Row, e_sl_api_Run, e_api_Cell, e_api_Region, e_api_Row, e_api_Run, ↓c88_L0_u]
    | inr v24x =>
      try simp only at h
      simp only [t_additiveref18_fine_L0_st, t_additiveref18_fine_L0_out] at f25
      try simp only [fcase_nil, fcase_lst, fcase_fsnoc, fcase_fapp, fcase_fset, fcase_frep, fcase_flit, fcase_flst] at f25
      cases h
      refine FC_pure (lf := lf88) rfl rfl rfl ?_
      simp only [lf88, lc88, c88_0, c88_1, c88_2, c88_3, c88_4, c88_5, c88_7]
      simp (maxSteps := 4000000) [f25, e_i64, e_sl_api_Row, e_sl_api_Run, e_api_Cell, e_api_Region, e_api_Row, e_api_Run, ↓c88_L0_u]

/-! additiveref18.Valid -/
theorem c54_L0_u (Γ : Env) (ps : List Nat) (σ : St) : EC Γ ps 0 c54_L0 σ = EC Γ ps 0 (.seq (.seq (.reg false c54_2) (.cond (.t 9) .skip (.seq (.trim []) (.exit 0)))) (.seq (.blk 1 (.seq (.reg false c54_3) (.seq (.reg false c54_4) (.cond (.t 48) (.seq (.reg false c54_5) (.seq (.trim [2]) .ret)) .skip)))) (.reg false c54_6))) σ := rfl
def t_additiveref18_Valid_L0 (k0 : api_Region) (s : Int) : Option (LR Int (Bool ⊕ Unit)) := match s with
 | s0 => (if (ilt s0 (flen k0.Rows)) = true then (match fget k0.Rows s0 with
 | none => none
 | some v4 => (match gOpt (band (bnot (bor (ilt v4.Y (-4096)) (ige v4.Y 4096))) (igt s0 0)) (fget k0.Rows (isub .i64 s0 1)) with
 | none => none
 | some v7 => (match gOpt (bnot (bor (bor (ilt v4.Y (-4096)) (ige v4.Y 4096)) (band (igt s0 0) (ile v4.Y (((v7.getD (⟨0, (FS.nil : (FS api_Run))⟩ : api_Row))).Y))))) (t_additiveref18_fine v4.Runs) with
 | none => none
 | some v11 => (if (bor (bor (bor (ilt v4.Y (-4096)) (ige v4.Y 4096)) (band (igt s0 0) (ile v4.Y (((v7.getD (⟨0, (FS.nil : (FS api_Run))⟩ : api_Row))).Y)))) (bnot (v11.getD false))) = true then some (.dn (.inl false))
 else some (.nx (iadd .i64 s0 1))))))
 else some (.dn (.inr ())))
def t_additiveref18_Valid_L0_st (k0 : api_Region) (s : Int) : St := match s with
 | s0 => ⟨fr [(1, .ptr 1 0 0), (3, .int .i64 s0)], hl [(1, .box 0 [encF e_api_Row k0.Rows])]⟩
def t_additiveref18_Valid_L0_out (k0 : api_Region) (x : (Bool ⊕ Unit)) : LE × St := match x with
 | .inl x => (.ret, ⟨fr [(2, .bool x)], hl []⟩)
 | .inr x => (.exit 0, ⟨fr [], hl []⟩)
theorem t_additiveref18_Valid_L0_ok {k0 : api_Region} {s : Int} {r : (Bool ⊕ Unit)} (h : loopT (t_additiveref18_Valid_L0 k0) bigN s = some r) : LK env [] 0 [1, 3] c54_L0 (some (t_additiveref18_Valid_L0_st k0 s)) = some (t_additiveref18_Valid_L0_out k0 r) := loop_walk (st := t_additiveref18_Valid_L0_st k0) (out := t_additiveref18_Valid_L0_out k0) (by
  clear h s r
  rintro s0 x h
  simp only [t_additiveref18_Valid_L0] at h
  by_cases c1 : (ilt s0 (flen k0.Rows)) = true
  · rw [if_pos c1] at h
    cases h3 : fget k0.Rows s0 with
    | none => (rw [h3] at h; cases h)
    | some v4 =>
      simp only [h3] at h
      have f2 := iaddr_F (e := e_api_Row) h3
      cases h6 : gOpt (band (bnot (bor (ilt v4.Y (-4096)) (ige v4.Y 4096))) (igt s0 0)) (fget k0.Rows (isub .i64 s0 1)) with
      | none => (rw [h6] at h; cases h)
      | some v7 =>
        simp only [h6] at h
        have f5 := fun (q0 : (bor (ilt v4.Y (-4096)) (ige v4.Y 4096)) = false) (q1 : (igt s0 0) = true) => iaddr_F (e := e_api_Row) (gOpt_getD (⟨0, (FS.nil : (FS api_Run))⟩ : api_Row) h6 (band_mk (bnot_mk q0) q1))
        cases h10 : gOpt (bnot (bor (bor (ilt v4.Y (-4096)) (ige v4.Y 4096)) (band (igt s0 0) (ile v4.Y (((v7.getD (⟨0, (FS.nil : (FS api_Run))⟩ : api_Row))).Y))))) (t_additiveref18_fine v4.Runs) with
        | none => (rw [h10] at h; cases h)
        | some v11 =>
          simp only [h10] at h
          have f9 := fun (q0 : (bor (bor (ilt v4.Y (-4096)) (ige v4.Y 4096)) (band (igt s0 0) (ile v4.Y (((v7.getD (⟨0, (FS.nil : (FS api_Run))⟩ : api_Row))).Y)))) = false) => t_additiveref18_fine_ok (gOpt_getD false h10 (bnot_mk q0))
          by_cases c12 : (bor (bor (bor (ilt v4.Y (-4096)) (ige v4.Y 4096)) (band (igt s0 0) (ile v4.Y (((v7.getD (⟨0, (FS.nil : (FS api_Run))⟩ : api_Row))).Y)))) (bnot (v11.getD false))) = true
          · rw [if_pos c12] at h
            cases h
            show LK env [] 0 [1, 3] c54_L0 (some (t_additiveref18_Valid_L0_st _ _)) = some (t_additiveref18_Valid_L0_out _ _)
            simp only [t_additiveref18_Valid_L0_st, t_additiveref18_Valid_L0_out]
            rw [LK_step]
            rcases tof (ilt v4.Y (-4096)) with a13 | a13
            · simp (maxSteps := 4000000) [c1, a13, f2, f5, f9, e_i64, e_sl_api_Row, e_sl_api_Run, e_api_Cell, e_api_Region, e_api_Row, e_api_Run, ↓c54_L0_u, c54_0, c54_1, c54_2, c54_3, c54_4, c54_5, c54_6, c54_8]
            · rcases tof (ige v4.Y 4096) with a14 | a14
              · simp (maxSteps := 4000000) [c1, a13, a14, f2, f5, f9, e_i64, e_sl_api_Row, e_sl_api_Run, e_api_Cell, e_api_Region, e_api_Row, e_api_Run, ↓c54_L0_u, c54_0, c54_1, c54_2, c54_3, c54_4, c54_5, c54_6, c54_8]
              · rcases tof (igt s0 0) with a15 | a15
                · rcases tof (ile v4.Y (((v7.getD (⟨0, (FS.nil : (FS api_Run))⟩ : api_Row))).Y)) with a16 | a16
                  · simp (maxSteps := 4000000) [c1, a13, a14, a15, a16, f2, f5, f9, e_i64, e_sl_api_Row, e_sl_api_Run, e_api_Cell, e_api_Region, e_api_Row, e_api_Run, ↓c54_L0_u, c54_0, c54_1, c54_2, c54_3, c54_4, c54_5, c54_6, c54_8]
                  · rcases tof (v11.getD false) with a17 | a17
                    · simp [c1, a13, a14, a15, a16, a17] at c12
                    · simp (maxSteps := 4000000) [c1, a13, a14, a15, a16, a17, f2, f5, f9, e_i64, e_sl_api_Row, e_sl_api_Run, e_api_Cell, e_api_Region, e_api_Row, e_api_Run, ↓c54_L0_u, c54_0, c54_1, c54_2, c54_3, c54_4, c54_5, c54_6, c54_8]
                · rcases tof (v11.getD false) with a18 | a18
                  · simp [c1, a13, a14, a15, a18] at c12
                  · simp (maxSteps := 4000000) [c1, a13, a14, a15, a18, f2, f5, f9, e_i64, e_sl_api_Row, e_sl_api_Run, e_api_Cell, e_api_Region, e_api_Row, e_api_Run, ↓c54_L0_u, c54_0, c54_1, c54_2, c54_3, c54_4, c54_5, c54_6, c54_8]
          · rw [if_neg c12] at h
            rw [Bool.not_eq_true] at c12
            cases h
            show LK env [] 0 [1, 3] c54_L0 (some (t_additiveref18_Valid_L0_st _ _)) = LK env [] 0 [1, 3] c54_L0 (some (t_additiveref18_Valid_L0_st _ _))
            simp only [t_additiveref18_Valid_L0_st]
            rw [LK_step]
            rcases tof (ilt v4.Y (-4096)) with a19 | a19
            · simp [c1, a19] at c12
            · rcases tof (ige v4.Y 4096) with a20 | a20
              · simp [c1, a19, a20] at c12
              · rcases tof (igt s0 0) with a21 | a21
                · rcases tof (ile v4.Y (((v7.getD (⟨0, (FS.nil : (FS api_Run))⟩ : api_Row))).Y)) with a22 | a22
                  · simp [c1, a19, a20, a21, a22] at c12
                  · rcases tof (v11.getD false) with a23 | a23
                    · simp (maxSteps := 4000000) [c1, a19, a20, a21, a22, a23, f2, f5, f9, e_i64, e_sl_api_Row, e_sl_api_Run, e_api_Cell, e_api_Region, e_api_Row, e_api_Run, ↓c54_L0_u, c54_0, c54_1, c54_2, c54_3, c54_4, c54_5, c54_6, c54_8]
                    · simp [c1, a19, a20, a21, a22, a23] at c12
                · rcases tof (v11.getD false) with a24 | a24
                  · simp (maxSteps := 4000000) [c1, a19, a20, a21, a24, f2, f5, f9, e_i64, e_sl_api_Row, e_sl_api_Run, e_api_Cell, e_api_Region, e_api_Row, e_api_Run, ↓c54_L0_u, c54_0, c54_1, c54_2, c54_3, c54_4, c54_5, c54_6, c54_8]
                  · simp [c1, a19, a20, a21, a24] at c12
  · rw [if_neg c1] at h
    rw [Bool.not_eq_true] at c1
    cases h
    show LK env [] 0 [1, 3] c54_L0 (some (t_additiveref18_Valid_L0_st _ _)) = some (t_additiveref18_Valid_L0_out _ _)
    simp only [t_additiveref18_Valid_L0_st, t_additiveref18_Valid_L0_out]
    rw [LK_step]
    simp (maxSteps := 4000000) [c1, e_i64, e_sl_api_Row, e_sl_api_Run, e_api_Cell, e_api_Region, e_api_Row, e_api_Run, ↓c54_L0_u, c54_0, c54_1, c54_2, c54_3, c54_4, c54_5, c54_6, c54_8]) bigN s r h
def t_additiveref18_Valid (p0 : api_Region) : Option Bool := (match loopT (t_additiveref18_Valid_L0 p0) bigN 0 with
 | none => none
 | some v14 => (match v14 with
 | .inl v14x => some v14x
 | .inr v14x => some true))
theorem t_additiveref18_Valid_ok {p0 : api_Region} {r : Bool} (h : t_additiveref18_Valid p0 = some r) : FC env 54 [.agg [encF e_api_Row p0.Rows]] none = some (.bool r, fun _ => none) := by
  unfold t_additiveref18_Valid at h
  cases h25 : loopT (t_additiveref18_Valid_L0 p0) bigN 0 with
  | none => (rw [h25] at h; cases h)
  | some v26 =>
    simp only [h25] at h
    have f27 := t_additiveref18_Valid_L0_ok h25
    cases v26 with
    | inl v26x =>
      try simp only at h
      simp only [t_additiveref18_Valid_L0_st, t_additiveref18_Valid_L0_out] at f27
      try simp only [fcase_nil, fcase_lst, fcase_fsnoc, fcase_fapp, fcase_fset, fcase_frep, fcase_flit, fcase_flst] at f27
      cases h
      refine FC_pure (lf := lf54) rfl rfl rfl ?_
      simp only [lf54, lc54, c54_0, c54_1, c54_2, c54_3, c54_4, c54_5, c54_6, c54_8]
      simp (maxSteps := 4000000) [f27, e_i64, e_sl_api_Row, e_sl_api_Run, e_api_Cell, e_api_Region, e_api_Row, e_api_Run, ↓c54_L0_u]
    | inr v26x =>
      try simp only at h
      simp only [t_additiveref18_Valid_L0_st, t_additiveref18_Valid_L0_out] at f27
      try simp only [fcase_nil, fcase_lst, fcase_fsnoc, fcase_fapp, fcase_fset, fcase_frep, fcase_flit, fcase_flst] at f27
      cases h
      refine FC_pure (lf := lf54) rfl rfl rfl ?_
      simp only [lf54, lc54, c54_0, c54_1, c54_2, c54_3, c54_4, c54_5, c54_6, c54_8]
      simp (maxSteps := 4000000) [f27, e_i64, e_sl_api_Row, e_sl_api_Run, e_api_Cell, e_api_Region, e_api_Row, e_api_Run, ↓c54_L0_u]

/-! additiveref18.Count -/
theorem c46_L0_u (Γ : Env) (ps : List Nat) (σ : St) : EC Γ ps 0 c46_L0 σ = EC Γ ps 0 (.seq (.seq (.reg false c46_7) (.cond (.t 25) .skip (.seq (.trim [1, 3, 4]) (.exit 2)))) (.seq (.blk 3 (.reg true c46_8)) (.reg false c46_9))) σ := rfl
theorem c46_L1_u (Γ : Env) (ps : List Nat) (σ : St) : EC Γ ps 0 c46_L1 σ = EC Γ ps 0 (.seq (.seq (.reg false c46_5) (.cond (.t 14) .skip (.seq (.trim [3]) (.exit 0)))) (.seq (.blk 1 (.seq (.reg false c46_6) (.blk 2 (.loop [1, 3, 4, 5] c46_L0)))) (.reg false c46_11))) σ := rfl
def t_additiveref18_Count_L0 (k0 : api_Region) (k1 : Int) (s : (Int × Int)) : Option (LR (Int × Int) Int) := match s with
 | (s0, s1) => (match fget k0.Rows k1 with
 | none => none
 | some v8 => (if (ilt s1 (flen v8.Runs)) = true then (match fget v8.Runs s1 with
 | none => none
 | some v13 => some (.nx ((iadd .i64 s0 (isub .i64 v13.To v13.From)), (iadd .i64 s1 1))))
 else some (.dn s0)))
def t_additiveref18_Count_L0_st (k0 : api_Region) (k1 : Int) (s : (Int × Int)) : St := match s with
 | (s0, s1) => ⟨fr [(1, .ptr 1 0 0), (3, .int .i64 s0), (4, .int .i64 k1), (5, .int .i64 s1)], hl [(1, .box 0 [encF e_api_Row k0.Rows])]⟩
def t_additiveref18_Count_L0_out (k0 : api_Region) (k1 : Int) (x : Int) : LE × St := (.exit 2, ⟨fr [(1, .ptr 1 0 0), (3, .int .i64 x), (4, .int .i64 k1)], hl [(1, .box 0 [encF e_api_Row k0.Rows])]⟩)
theorem t_additiveref18_Count_L0_ok {k0 : api_Region} {k1 : Int} {s : (Int × Int)} {r : Int} (h : loopT (t_additiveref18_Count_L0 k0 k1) bigN s = some r) : LK env [] 0 [1, 3, 4, 5] c46_L0 (some (t_additiveref18_Count_L0_st k0 k1 s)) = some (t_additiveref18_Count_L0_out k0 k1 r) := loop_walk (st := t_additiveref18_Count_L0_st k0 k1) (out := t_additiveref18_Count_L0_out k0 k1) (by
  clear h s r
  rintro ⟨s0, s1⟩ x h
  simp only [t_additiveref18_Count_L0] at h
  cases h8 : fget k0.Rows k1 with
  | none => (rw [h8] at h; cases h)
  | some v9 =>
    simp only [h8] at h
    have f7 := iaddr_F (e := e_api_Row) h8
    by_cases c10 : (ilt s1 (flen v9.Runs)) = true
    · rw [if_pos c10] at h
      cases h13 : fget v9.Runs s1 with
      | none => (rw [h13] at h; cases h)
      | some v14 =>
        simp only [h13] at h
        have f12 := iaddr_F (e := e_api_Run) h13
        cases h
        show LK env [] 0 [1, 3, 4, 5] c46_L0 (some (t_additiveref18_Count_L0_st _ _ _)) = LK env [] 0 [1, 3, 4, 5] c46_L0 (some (t_additiveref18_Count_L0_st _ _ _))
        simp only [t_additiveref18_Count_L0_st]
        rw [LK_step]
        simp (maxSteps := 4000000) [c10, f7, f12, e_i64, e_sl_api_Row, e_sl_api_Run, e_api_Cell, e_api_Region, e_api_Row, e_api_Run, ↓c46_L0_u, ↓c46_L1_u, c46_0, c46_1, c46_2, c46_3, c46_4, c46_5, c46_6, c46_7, c46_8, c46_9, c46_11, c46_13]
    · rw [if_neg c10] at h
      rw [Bool.not_eq_true] at c10
      cases h
      show LK env [] 0 [1, 3, 4, 5] c46_L0 (some (t_additiveref18_Count_L0_st _ _ _)) = some (t_additiveref18_Count_L0_out _ _ _)
      simp only [t_additiveref18_Count_L0_st, t_additiveref18_Count_L0_out]
      rw [LK_step]
      simp (maxSteps := 4000000) [c10, f7, e_i64, e_sl_api_Row, e_sl_api_Run, e_api_Cell, e_api_Region, e_api_Row, e_api_Run, ↓c46_L0_u, ↓c46_L1_u, c46_0, c46_1, c46_2, c46_3, c46_4, c46_5, c46_6, c46_7, c46_8, c46_9, c46_11, c46_13]) bigN s r h
def t_additiveref18_Count_L1 (k0 : api_Region) (s : (Int × Int)) : Option (LR (Int × Int) Int) := match s with
 | (s0, s1) => (if (ilt s1 (flen k0.Rows)) = true then (match loopT (t_additiveref18_Count_L0 k0 s1) bigN (s0, 0) with
 | none => none
 | some v17 => some (.nx (v17, (iadd .i64 s1 1))))
 else some (.dn s0))
def t_additiveref18_Count_L1_st (k0 : api_Region) (s : (Int × Int)) : St := match s with
 | (s0, s1) => ⟨fr [(1, .ptr 1 0 0), (3, .int .i64 s0), (4, .int .i64 s1)], hl [(1, .box 0 [encF e_api_Row k0.Rows])]⟩
def t_additiveref18_Count_L1_out (k0 : api_Region) (x : Int) : LE × St := (.exit 0, ⟨fr [(3, .int .i64 x)], hl []⟩)
theorem t_additiveref18_Count_L1_ok {k0 : api_Region} {s : (Int × Int)} {r : Int} (h : loopT (t_additiveref18_Count_L1 k0) bigN s = some r) : LK env [] 0 [1, 3, 4] c46_L1 (some (t_additiveref18_Count_L1_st k0 s)) = some (t_additiveref18_Count_L1_out k0 r) := loop_walk (st := t_additiveref18_Count_L1_st k0) (out := t_additiveref18_Count_L1_out k0) (by
  clear h s r
  rintro ⟨s0, s1⟩ x h
  simp only [t_additiveref18_Count_L1] at h
  by_cases c6 : (ilt s1 (flen k0.Rows)) = true
  · rw [if_pos c6] at h
    cases h17 : loopT (t_additiveref18_Count_L0 k0 s1) bigN (s0, 0) with
    | none => (rw [h17] at h; cases h)
    | some v18 =>
      simp only [h17] at h
      have f19 := t_additiveref18_Count_L0_ok h17
      simp only [t_additiveref18_Count_L0_st, t_additiveref18_Count_L0_out] at f19
      try simp only [fcase_nil, fcase_lst, fcase_fsnoc, fcase_fapp, fcase_fset, fcase_frep, fcase_flit, fcase_flst] at f19
      cases h
      show LK env [] 0 [1, 3, 4] c46_L1 (some (t_additiveref18_Count_L1_st _ _)) = LK env [] 0 [1, 3, 4] c46_L1 (some (t_additiveref18_Count_L1_st _ _))
      simp only [t_additiveref18_Count_L1_st]
      rw [LK_step]
      try simp only [c6] at f19
      simp (maxSteps := 4000000) [c6, f19, e_i64, e_sl_api_Row, e_sl_api_Run, e_api_Cell, e_api_Region, e_api_Row, e_api_Run, ↓c46_L0_u, ↓c46_L1_u, c46_0, c46_1, c46_2, c46_3, c46_4, c46_5, c46_6, c46_7, c46_8, c46_9, c46_11, c46_13]
  · rw [if_neg c6] at h
    rw [Bool.not_eq_true] at c6
    cases h
    show LK env [] 0 [1, 3, 4] c46_L1 (some (t_additiveref18_Count_L1_st _ _)) = some (t_additiveref18_Count_L1_out _ _)
    simp only [t_additiveref18_Count_L1_st, t_additiveref18_Count_L1_out]
    rw [LK_step]
    simp (maxSteps := 4000000) [c6, e_i64, e_sl_api_Row, e_sl_api_Run, e_api_Cell, e_api_Region, e_api_Row, e_api_Run, ↓c46_L0_u, ↓c46_L1_u, c46_0, c46_1, c46_2, c46_3, c46_4, c46_5, c46_6, c46_7, c46_8, c46_9, c46_11, c46_13]) bigN s r h
def t_additiveref18_Count (p0 : api_Region) : Option Int := (match t_additiveref18_Valid p0 with
 | none => none
 | some v3 => (if (bnot v3) = true then some 0
 else (match loopT (t_additiveref18_Count_L1 p0) bigN (0, 0) with
 | none => none
 | some v20 => some v20)))
theorem t_additiveref18_Count_ok {p0 : api_Region} {r : Int} (h : t_additiveref18_Count p0 = some r) : FC env 46 [.agg [encF e_api_Row p0.Rows]] none = some (.int .i64 r, fun _ => none) := by
  unfold t_additiveref18_Count at h
  cases h2 : t_additiveref18_Valid p0 with
  | none => (rw [h2] at h; cases h)
  | some v3 =>
    simp only [h2] at h
    have f1 := t_additiveref18_Valid_ok h2
    by_cases c4 : (bnot v3) = true
    · rw [if_pos c4] at h
      cases h
      refine FC_pure (lf := lf46) rfl rfl rfl ?_
      simp only [lf46, lc46, c46_0, c46_1, c46_2, c46_3, c46_4, c46_5, c46_6, c46_7, c46_8, c46_9, c46_11, c46_13]
      rcases tof v3 with a5 | a5
      · simp [a5] at c4
      · simp (maxSteps := 4000000) [a5, f1, e_i64, e_sl_api_Row, e_sl_api_Run, e_api_Cell, e_api_Region, e_api_Row, e_api_Run, ↓c46_L0_u, ↓c46_L1_u]
    · rw [if_neg c4] at h
      rw [Bool.not_eq_true] at c4
      cases h20 : loopT (t_additiveref18_Count_L1 p0) bigN (0, 0) with
      | none => (rw [h20] at h; cases h)
      | some v21 =>
        simp only [h20] at h
        have f22 := t_additiveref18_Count_L1_ok h20
        simp only [t_additiveref18_Count_L1_st, t_additiveref18_Count_L1_out] at f22
        try simp only [fcase_nil, fcase_lst, fcase_fsnoc, fcase_fapp, fcase_fset, fcase_frep, fcase_flit, fcase_flst] at f22
        cases h
        refine FC_pure (lf := lf46) rfl rfl rfl ?_
        simp only [lf46, lc46, c46_0, c46_1, c46_2, c46_3, c46_4, c46_5, c46_6, c46_7, c46_8, c46_9, c46_11, c46_13]
        rcases tof v3 with a23 | a23
        · try simp only [a23] at f22
          simp (maxSteps := 4000000) [a23, f1, f22, e_i64, e_sl_api_Row, e_sl_api_Run, e_api_Cell, e_api_Region, e_api_Row, e_api_Run, ↓c46_L0_u, ↓c46_L1_u]
        · simp [a23] at c4

/-! additivelaw18.Small -/
theorem c16_L0_u (Γ : Env) (ps : List Nat) (σ : St) : EC Γ ps 0 c16_L0 σ = EC Γ ps 0 (.seq (.seq (.reg false c16_4) (.cond (.t 12) .skip (.seq (.trim [1]) (.exit 0)))) (.seq (.blk 1 (.seq (.reg false c16_5) (.cond (.t 22) (.seq (.reg false c16_6) (.seq (.trim [2]) .ret)) .skip))) (.reg false c16_7))) σ := rfl
def t_additivelaw18_Small_L0 (k0 : api_Region) (s : Int) : Option (LR Int (Bool ⊕ Unit)) := match s with
 | s0 => (if (ilt s0 (flen k0.Rows)) = true then (match fget k0.Rows s0 with
 | none => none
 | some v5 => (if (igt (flen v5.Runs) 40) = true then some (.dn (.inl false))
 else some (.nx (iadd .i64 s0 1))))
 else some (.dn (.inr ())))
def t_additivelaw18_Small_L0_st (k0 : api_Region) (s : Int) : St := match s with
 | s0 => ⟨fr [(1, .ptr 1 0 0), (3, .int .i64 s0)], hl [(1, .box 0 [encF e_api_Row k0.Rows])]⟩
def t_additivelaw18_Small_L0_out (k0 : api_Region) (x : (Bool ⊕ Unit)) : LE × St := match x with
 | .inl x => (.ret, ⟨fr [(2, .bool x)], hl []⟩)
 | .inr x => (.exit 0, ⟨fr [(1, .ptr 1 0 0)], hl [(1, .box 0 [encF e_api_Row k0.Rows])]⟩)
theorem t_additivelaw18_Small_L0_ok {k0 : api_Region} {s : Int} {r : (Bool ⊕ Unit)} (h : loopT (t_additivelaw18_Small_L0 k0) bigN s = some r) : LK env [] 0 [1, 3] c16_L0 (some (t_additivelaw18_Small_L0_st k0 s)) = some (t_additivelaw18_Small_L0_out k0 r) := loop_walk (st := t_additivelaw18_Small_L0_st k0) (out := t_additivelaw18_Small_L0_out k0) (by
  clear h s r
  rintro s0 x h
  simp only [t_additivelaw18_Small_L0] at h
  by_cases c2 : (ilt s0 (flen k0.Rows)) = true
  · rw [if_pos c2] at h
    cases h4 : fget k0.Rows s0 with
    | none => (rw [h4] at h; cases h)
    | some v5 =>
      simp only [h4] at h
      have f3 := iaddr_F (e := e_api_Row) h4
      by_cases c6 : (igt (flen v5.Runs) 40) = true
      · rw [if_pos c6] at h
        cases h
        show LK env [] 0 [1, 3] c16_L0 (some (t_additivelaw18_Small_L0_st _ _)) = some (t_additivelaw18_Small_L0_out _ _)
        simp only [t_additivelaw18_Small_L0_st, t_additivelaw18_Small_L0_out]
        rw [LK_step]
        simp (maxSteps := 4000000) [c2, c6, f3, e_i64, e_sl_api_Row, e_sl_api_Run, e_api_Cell, e_api_Region, e_api_Row, e_api_Run, ↓c16_L0_u, c16_0, c16_1, c16_2, c16_3, c16_4, c16_5, c16_6, c16_7, c16_9]
      · rw [if_neg c6] at h
        rw [Bool.not_eq_true] at c6
        cases h
        show LK env [] 0 [1, 3] c16_L0 (some (t_additivelaw18_Small_L0_st _ _)) = LK env [] 0 [1, 3] c16_L0 (some (t_additivelaw18_Small_L0_st _ _))
        simp only [t_additivelaw18_Small_L0_st]
        rw [LK_step]
        simp (maxSteps := 4000000) [c2, c6, f3, e_i64, e_sl_api_Row, e_sl_api_Run, e_api_Cell, e_api_Region, e_api_Row, e_api_Run, ↓c16_L0_u, c16_0, c16_1, c16_2, c16_3, c16_4, c16_5, c16_6, c16_7, c16_9]
  · rw [if_neg c2] at h
    rw [Bool.not_eq_true] at c2
    cases h
    show LK env [] 0 [1, 3] c16_L0 (some (t_additivelaw18_Small_L0_st _ _)) = some (t_additivelaw18_Small_L0_out _ _)
    simp only [t_additivelaw18_Small_L0_st, t_additivelaw18_Small_L0_out]
    rw [LK_step]
    simp (maxSteps := 4000000) [c2, e_i64, e_sl_api_Row, e_sl_api_Run, e_api_Cell, e_api_Region, e_api_Row, e_api_Run, ↓c16_L0_u, c16_0, c16_1, c16_2, c16_3, c16_4, c16_5, c16_6, c16_7, c16_9]) bigN s r h
def t_additivelaw18_Small (p0 : api_Region) : Option Bool := (if (igt (flen p0.Rows) 40) = true then some false
 else (match loopT (t_additivelaw18_Small_L0 p0) bigN 0 with
 | none => none
 | some v8 => (match v8 with
 | .inl v8x => some v8x
 | .inr v8x => (match t_additiveref18_Count p0 with
 | none => none
 | some v12 => some (ile v12 600)))))
theorem t_additivelaw18_Small_ok {p0 : api_Region} {r : Bool} (h : t_additivelaw18_Small p0 = some r) : FC env 16 [.agg [encF e_api_Row p0.Rows]] none = some (.bool r, fun _ => none) := by
  unfold t_additivelaw18_Small at h
  by_cases c1 : (igt (flen p0.Rows) 40) = true
  · rw [if_pos c1] at h
    cases h
    refine FC_pure (lf := lf16) rfl rfl rfl ?_
    simp only [lf16, lc16, c16_0, c16_1, c16_2, c16_3, c16_4, c16_5, c16_6, c16_7, c16_9]
    simp (maxSteps := 4000000) [c1, e_i64, e_sl_api_Row, e_sl_api_Run, e_api_Cell, e_api_Region, e_api_Row, e_api_Run, ↓c16_L0_u]
  · rw [if_neg c1] at h
    rw [Bool.not_eq_true] at c1
    cases h7 : loopT (t_additivelaw18_Small_L0 p0) bigN 0 with
    | none => (rw [h7] at h; cases h)
    | some v8 =>
      simp only [h7] at h
      have f9 := t_additivelaw18_Small_L0_ok h7
      cases v8 with
      | inl v8x =>
        try simp only at h
        simp only [t_additivelaw18_Small_L0_st, t_additivelaw18_Small_L0_out] at f9
        try simp only [fcase_nil, fcase_lst, fcase_fsnoc, fcase_fapp, fcase_fset, fcase_frep, fcase_flit, fcase_flst] at f9
        cases h
        refine FC_pure (lf := lf16) rfl rfl rfl ?_
        simp only [lf16, lc16, c16_0, c16_1, c16_2, c16_3, c16_4, c16_5, c16_6, c16_7, c16_9]
        try simp only [c1] at f9
        simp (maxSteps := 4000000) [c1, f9, e_i64, e_sl_api_Row, e_sl_api_Run, e_api_Cell, e_api_Region, e_api_Row, e_api_Run, ↓c16_L0_u]
      | inr v8x =>
        try simp only at h
        simp only [t_additivelaw18_Small_L0_st, t_additivelaw18_Small_L0_out] at f9
        try simp only [fcase_nil, fcase_lst, fcase_fsnoc, fcase_fapp, fcase_fset, fcase_frep, fcase_flit, fcase_flst] at f9
        cases h11 : t_additiveref18_Count p0 with
        | none => (rw [h11] at h; cases h)
        | some v12 =>
          simp only [h11] at h
          have f10 := t_additiveref18_Count_ok h11
          cases h
          refine FC_pure (lf := lf16) rfl rfl rfl ?_
          simp only [lf16, lc16, c16_0, c16_1, c16_2, c16_3, c16_4, c16_5, c16_6, c16_7, c16_9]
          try simp only [c1] at f9
          simp (maxSteps := 4000000) [c1, f9, f10, e_i64, e_sl_api_Row, e_sl_api_Run, e_api_Cell, e_api_Region, e_api_Row, e_api_Run, ↓c16_L0_u]

/-! additivelaw34.awake -/
def u_additivelaw34_awake : Bool := true
theorem u_additivelaw34_awake_ok : FC env 17 [] none = some (.bool u_additivelaw34_awake, fun _ => none) := FC_iff.2 ⟨60, by kernel_rfl⟩

/-! region.ok -/
def u_region_ok (p0 : Int) : Bool := (band (ige p0 (-4096)) (ilt p0 4096))
def t_region_ok (p0 : Int) : Option Bool := some (u_region_ok p0)
theorem u_region_ok_ok (p0 : Int) : FC env 89 [.int .i64 p0] none = some (.bool (u_region_ok p0), fun _ => none) := by
  unfold u_region_ok
  refine FC_pure (lf := lf89) rfl rfl rfl ?_
  simp only [lf89, lc89, c89_0, c89_1]
  rcases tof (ige p0 (-4096)) with a1 | a1
  · simp (maxSteps := 4000000) [a1, e_i64, e_sl_api_Row, e_sl_api_Run, e_api_Cell, e_api_Region, e_api_Row, e_api_Run]
  · simp (maxSteps := 4000000) [a1, e_i64, e_sl_api_Row, e_sl_api_Run, e_api_Cell, e_api_Region, e_api_Row, e_api_Run]
theorem t_region_ok_ok {p0 : Int} {r : Bool} (h : t_region_ok p0 = some r) : FC env 89 [.int .i64 p0] none = some (.bool r, fun _ => none) := by
  cases h
  exact u_region_ok_ok _

/-! runs.fits -/
def u_runs_fits (p0 : api_Run) : Bool := (band (band (band (ige p0.From (-1048576)) (ile p0.From 1048576)) (ige p0.To (-1048576))) (ile p0.To 1048576))
def t_runs_fits (p0 : api_Run) : Option Bool := some (u_runs_fits p0)
theorem u_runs_fits_ok (p0 : api_Run) : FC env 112 [.agg [.int .i64 p0.From, .int .i64 p0.To]] none = some (.bool (u_runs_fits p0), fun _ => none) := by
  unfold u_runs_fits
  refine FC_pure (lf := lf112) rfl rfl rfl ?_
  simp only [lf112, lc112, c112_0, c112_1]
  rcases tof (ige p0.From (-1048576)) with a1 | a1
  · rcases tof (ile p0.From 1048576) with a2 | a2
    · rcases tof (ige p0.To (-1048576)) with a3 | a3
      · simp (maxSteps := 4000000) [a1, a2, a3, e_i64, e_sl_api_Row, e_sl_api_Run, e_api_Cell, e_api_Region, e_api_Row, e_api_Run]
      · simp (maxSteps := 4000000) [a1, a2, a3, e_i64, e_sl_api_Row, e_sl_api_Run, e_api_Cell, e_api_Region, e_api_Row, e_api_Run]
    · simp (maxSteps := 4000000) [a1, a2, e_i64, e_sl_api_Row, e_sl_api_Run, e_api_Cell, e_api_Region, e_api_Row, e_api_Run]
  · simp (maxSteps := 4000000) [a1, e_i64, e_sl_api_Row, e_sl_api_Run, e_api_Cell, e_api_Region, e_api_Row, e_api_Run]
theorem t_runs_fits_ok {p0 : api_Run} {r : Bool} (h : t_runs_fits p0 = some r) : FC env 112 [.agg [.int .i64 p0.From, .int .i64 p0.To]] none = some (.bool r, fun _ => none) := by
  cases h
  exact u_runs_fits_ok _

/-! runs.Valid -/
theorem c90_L0_u (Γ : Env) (ps : List Nat) (σ : St) : EC Γ ps 0 c90_L0 σ = EC Γ ps 0 (.seq (.reg false c90_2) (.seq (.cond (.t 8) .skip (.seq (.trim []) (.exit 0))) (.seq (.blk 1 (.seq (.reg false c90_3) (.seq (.reg true c90_4) (.cond (.t 36) (.seq (.reg false c90_5) (.seq (.trim [2]) .ret)) .skip)))) (.reg false c90_6)))) σ := rfl
def t_runs_Valid_L0 (k0 : (FS api_Run)) (k1 : (FS api_Run)) (k2 : Int) (s : Int) : Option (LR Int (Bool ⊕ Unit)) := match s with
 | s0 => (if (ilt s0 k2) = true then (match fget k1 s0 with
 | none => none
 | some v4 => (match gOpt (band (bnot (bor (ige v4.From v4.To) (bnot (u_runs_fits v4)))) (igt s0 0)) (fget k0 (isub .i64 s0 1)) with
 | none => none
 | some v8 => (if (bor (bor (ige v4.From v4.To) (bnot (u_runs_fits v4))) (band (igt s0 0) (ile v4.From (((v8.getD (⟨0, 0⟩ : api_Run))).To)))) = true then some (.dn (.inl false))
 else some (.nx (iadd .i64 s0 1)))))
 else some (.dn (.inr ())))
def t_runs_Valid_L0_st (k0 : (FS api_Run)) (k1 : (FS api_Run)) (k2 : Int) (s : Int) : St := match s with
 | s0 => ⟨fr [(0, encF e_api_Run k0), (5, encF e_api_Run k1), (6, .int .i64 k2), (7, .int .i64 s0)], hl []⟩
def t_runs_Valid_L0_out (k0 : (FS api_Run)) (k1 : (FS api_Run)) (k2 : Int) (x : (Bool ⊕ Unit)) : LE × St := match x with
 | .inl x => (.ret, ⟨fr [(2, .bool x)], hl []⟩)
 | .inr x => (.exit 0, ⟨fr [], hl []⟩)
theorem t_runs_Valid_L0_ok {k0 : (FS api_Run)} {k1 : (FS api_Run)} {k2 : Int} {s : Int} {r : (Bool ⊕ Unit)} (h : loopT (t_runs_Valid_L0 k0 k1 k2) bigN s = some r) : LK env [] 0 [0, 5, 6, 7] c90_L0 (some (t_runs_Valid_L0_st k0 k1 k2 s)) = some (t_runs_Valid_L0_out k0 k1 k2 r) := loop_walk (st := t_runs_Valid_L0_st k0 k1 k2) (out := t_runs_Valid_L0_out k0 k1 k2) (by
  clear h s r
  rintro s0 x h
  simp only [t_runs_Valid_L0] at h
  by_cases c1 : (ilt s0 k2) = true
  · rw [if_pos c1] at h
    cases h3 : fget k1 s0 with
    | none => (rw [h3] at h; cases h)
    | some v4 =>
      simp only [h3] at h
      have f2 := iaddr_F (e := e_api_Run) h3
      have f5 := u_runs_fits_ok v4
      cases h7 : gOpt (band (bnot (bor (ige v4.From v4.To) (bnot (u_runs_fits v4)))) (igt s0 0)) (fget k0 (isub .i64 s0 1)) with
      | none => (rw [h7] at h; cases h)
      | some v8 =>
        simp only [h7] at h
        have f6 := fun (q0 : (bor (ige v4.From v4.To) (bnot (u_runs_fits v4))) = false) (q1 : (igt s0 0) = true) => iaddr_F (e := e_api_Run) (gOpt_getD (⟨0, 0⟩ : api_Run) h7 (band_mk (bnot_mk q0) q1))
        by_cases c9 : (bor (bor (ige v4.From v4.To) (bnot (u_runs_fits v4))) (band (igt s0 0) (ile v4.From (((v8.getD (⟨0, 0⟩ : api_Run))).To)))) = true
        · rw [if_pos c9] at h
          cases h
          show LK env [] 0 [0, 5, 6, 7] c90_L0 (some (t_runs_Valid_L0_st _ _ _ _)) = some (t_runs_Valid_L0_out _ _ _ _)
          simp only [t_runs_Valid_L0_st, t_runs_Valid_L0_out]
          rw [LK_step]
          rcases tof (ige v4.From v4.To) with a10 | a10
          · simp (maxSteps := 4000000) [c1, a10, f2, f5, f6, e_i64, e_sl_api_Row, e_sl_api_Run, e_api_Cell, e_api_Region, e_api_Row, e_api_Run, ↓c90_L0_u, c90_0, c90_1, c90_2, c90_3, c90_4, c90_5, c90_6, c90_8]
          · rcases tof (u_runs_fits v4) with a11 | a11
            · rcases tof (igt s0 0) with a12 | a12
              · rcases tof (ile v4.From (((v8.getD (⟨0, 0⟩ : api_Run))).To)) with a13 | a13
                · simp (maxSteps := 4000000) [c1, a10, a11, a12, a13, f2, f5, f6, e_i64, e_sl_api_Row, e_sl_api_Run, e_api_Cell, e_api_Region, e_api_Row, e_api_Run, ↓c90_L0_u, c90_0, c90_1, c90_2, c90_3, c90_4, c90_5, c90_6, c90_8]
                · simp [c1, a10, a11, a12, a13] at c9
              · simp [c1, a10, a11, a12] at c9
            · simp (maxSteps := 4000000) [c1, a10, a11, f2, f5, f6, e_i64, e_sl_api_Row, e_sl_api_Run, e_api_Cell, e_api_Region, e_api_Row, e_api_Run, ↓c90_L0_u, c90_0, c90_1, c90_2, c90_3, c90_4, c90_5, c90_6, c90_8]
        · rw [if_neg c9] at h
          rw [Bool.not_eq_true] at c9
          cases h
          show LK env [] 0 [0, 5, 6, 7] c90_L0 (some (t_runs_Valid_L0_st _ _ _ _)) = LK env [] 0 [0, 5, 6, 7] c90_L0 (some (t_runs_Valid_L0_st _ _ _ _))
          simp only [t_runs_Valid_L0_st]
          rw [LK_step]
          rcases tof (ige v4.From v4.To) with a14 | a14
          · simp [c1, a14] at c9
          · rcases tof (u_runs_fits v4) with a15 | a15
            · rcases tof (igt s0 0) with a16 | a16
              · rcases tof (ile v4.From (((v8.getD (⟨0, 0⟩ : api_Run))).To)) with a17 | a17
                · simp [c1, a14, a15, a16, a17] at c9
                · simp (maxSteps := 4000000) [c1, a14, a15, a16, a17, f2, f5, f6, e_i64, e_sl_api_Row, e_sl_api_Run, e_api_Cell, e_api_Region, e_api_Row, e_api_Run, ↓c90_L0_u, c90_0, c90_1, c90_2, c90_3, c90_4, c90_5, c90_6, c90_8]
              · simp (maxSteps := 4000000) [c1, a14, a15, a16, f2, f5, f6, e_i64, e_sl_api_Row, e_sl_api_Run, e_api_Cell, e_api_Region, e_api_Row, e_api_Run, ↓c90_L0_u, c90_0, c90_1, c90_2, c90_3, c90_4, c90_5, c90_6, c90_8]
            · simp [c1, a14, a15] at c9
  · rw [if_neg c1] at h
    rw [Bool.not_eq_true] at c1
    cases h
    show LK env [] 0 [0, 5, 6, 7] c90_L0 (some (t_runs_Valid_L0_st _ _ _ _)) = some (t_runs_Valid_L0_out _ _ _ _)
    simp only [t_runs_Valid_L0_st, t_runs_Valid_L0_out]
    rw [LK_step]
    simp (maxSteps := 4000000) [c1, e_i64, e_sl_api_Row, e_sl_api_Run, e_api_Cell, e_api_Region, e_api_Row, e_api_Run, ↓c90_L0_u, c90_0, c90_1, c90_2, c90_3, c90_4, c90_5, c90_6, c90_8]) bigN s r h
def t_runs_Valid (p0 : (FS api_Run)) : Option Bool := (match loopT (t_runs_Valid_L0 p0 p0 (flen p0)) bigN 0 with
 | none => none
 | some v11 => (match v11 with
 | .inl v11x => some v11x
 | .inr v11x => some true))
theorem t_runs_Valid_ok {p0 : (FS api_Run)} {r : Bool} (h : t_runs_Valid p0 = some r) : FC env 90 [encF e_api_Run p0] none = some (.bool r, fun _ => none) := by
  unfold t_runs_Valid at h
  cases h18 : loopT (t_runs_Valid_L0 p0 p0 (flen p0)) bigN 0 with
  | none => (rw [h18] at h; cases h)
  | some v19 =>
    simp only [h18] at h
    have f20 := t_runs_Valid_L0_ok h18
    cases v19 with
    | inl v19x =>
      try simp only at h
      simp only [t_runs_Valid_L0_st, t_runs_Valid_L0_out] at f20
      try simp only [fcase_nil, fcase_lst, fcase_fsnoc, fcase_fapp, fcase_fset, fcase_frep, fcase_flit, fcase_flst] at f20
      cases h
      refine FC_pure (lf := lf90) rfl rfl rfl ?_
      simp only [lf90, lc90, c90_0, c90_1, c90_2, c90_3, c90_4, c90_5, c90_6, c90_8]
      simp (maxSteps := 4000000) [f20, e_i64, e_sl_api_Row, e_sl_api_Run, e_api_Cell, e_api_Region, e_api_Row, e_api_Run, ↓c90_L0_u]
    | inr v19x =>
      try simp only at h
      simp only [t_runs_Valid_L0_st, t_runs_Valid_L0_out] at f20
      try simp only [fcase_nil, fcase_lst, fcase_fsnoc, fcase_fapp, fcase_fset, fcase_frep, fcase_flit, fcase_flst] at f20
      cases h
      refine FC_pure (lf := lf90) rfl rfl rfl ?_
      simp only [lf90, lc90, c90_0, c90_1, c90_2, c90_3, c90_4, c90_5, c90_6, c90_8]
      simp (maxSteps := 4000000) [f20, e_i64, e_sl_api_Row, e_sl_api_Run, e_api_Cell, e_api_Region, e_api_Row, e_api_Run, ↓c90_L0_u]

/-! region.Valid -/
theorem c57_L0_u (Γ : Env) (ps : List Nat) (σ : St) : EC Γ ps 0 c57_L0 σ = EC Γ ps 0 (.seq (.reg false c57_2) (.seq (.cond (.t 9) .skip (.seq (.trim []) (.exit 0))) (.seq (.blk 1 (.seq (.reg false c57_3) (.seq (.seq (.reg true c57_4) (.cond (.t 44) (.seq (.reg false c57_5) (.seq (.trim [2]) .ret)) .skip)) (.seq (.reg false c57_6) (.cond (.t 65) (.seq (.reg false c57_7) (.seq (.trim [2]) .ret)) .skip))))) (.reg false c57_8)))) σ := rfl
def t_region_Valid_L0 (k0 : api_Region) (k1 : (FS api_Row)) (k2 : Int) (s : Int) : Option (LR Int (Bool ⊕ Unit)) := match s with
 | s0 => (if (ilt s0 k2) = true then (match fget k1 s0 with
 | none => none
 | some v4 => (match gOpt (band (bnot (bnot (u_region_ok v4.Y))) (igt s0 0)) (fget k0.Rows (isub .i64 s0 1)) with
 | none => none
 | some v8 => (match gOpt (bnot (bor (bor (bnot (u_region_ok v4.Y)) (band (igt s0 0) (ile v4.Y (((v8.getD (⟨0, (FS.nil : (FS api_Run))⟩ : api_Row))).Y)))) (ieq (flen v4.Runs) 0))) (t_runs_Valid v4.Runs) with
 | none => none
 | some v11 => (if (bor (bor (bor (bnot (u_region_ok v4.Y)) (band (igt s0 0) (ile v4.Y (((v8.getD (⟨0, (FS.nil : (FS api_Run))⟩ : api_Row))).Y)))) (ieq (flen v4.Runs) 0)) (bnot (v11.getD false))) = true then some (.dn (.inl false))
 else (match fget v4.Runs 0 with
 | none => none
 | some v15 => (match gOpt (bnot (bnot (u_region_ok v15.From))) (fget v4.Runs (isub .i64 (flen v4.Runs) 1)) with
 | none => none
 | some v19 => (if (bor (bnot (u_region_ok v15.From)) (bnot (u_region_ok (isub .i64 (((v19.getD (⟨0, 0⟩ : api_Run))).To) 1)))) = true then some (.dn (.inl false))
 else some (.nx (iadd .i64 s0 1)))))))))
 else some (.dn (.inr ())))
def t_region_Valid_L0_st (k0 : api_Region) (k1 : (FS api_Row)) (k2 : Int) (s : Int) : St := match s with
 | s0 => ⟨fr [(1, .ptr 1 0 0), (6, encF e_api_Row k1), (7, .int .i64 k2), (8, .int .i64 s0)], hl [(1, .box 0 [encF e_api_Row k0.Rows])]⟩
def t_region_Valid_L0_out (k0 : api_Region) (k1 : (FS api_Row)) (k2 : Int) (x : (Bool ⊕ Unit)) : LE × St := match x with
 | .inl x => (.ret, ⟨fr [(2, .bool x)], hl []⟩)
 | .inr x => (.exit 0, ⟨fr [], hl []⟩)
theorem t_region_Valid_L0_ok {k0 : api_Region} {k1 : (FS api_Row)} {k2 : Int} {s : Int} {r : (Bool ⊕ Unit)} (h : loopT (t_region_Valid_L0 k0 k1 k2) bigN s = some r) : LK env [] 0 [1, 6, 7, 8] c57_L0 (some (t_region_Valid_L0_st k0 k1 k2 s)) = some (t_region_Valid_L0_out k0 k1 k2 r) := loop_walk (st := t_region_Valid_L0_st k0 k1 k2) (out := t_region_Valid_L0_out k0 k1 k2) (by
  clear h s r
  rintro s0 x h
  simp only [t_region_Valid_L0] at h
  by_cases c1 : (ilt s0 k2) = true
  · rw [if_pos c1] at h
    cases h3 : fget k1 s0 with
    | none => (rw [h3] at h; cases h)
    | some v4 =>
      simp only [h3] at h
      have f2 := iaddr_F (e := e_api_Row) h3
      have f5 := u_region_ok_ok v4.Y
      cases h7 : gOpt (band (bnot (bnot (u_region_ok v4.Y))) (igt s0 0)) (fget k0.Rows (isub .i64 s0 1)) with
      | none => (rw [h7] at h; cases h)
      | some v8 =>
        simp only [h7] at h
        have f6 := fun (q0 : (bnot (u_region_ok v4.Y)) = false) (q1 : (igt s0 0) = true) => iaddr_F (e := e_api_Row) (gOpt_getD (⟨0, (FS.nil : (FS api_Run))⟩ : api_Row) h7 (band_mk (bnot_mk q0) q1))
        cases h10 : gOpt (bnot (bor (bor (bnot (u_region_ok v4.Y)) (band (igt s0 0) (ile v4.Y (((v8.getD (⟨0, (FS.nil : (FS api_Run))⟩ : api_Row))).Y)))) (ieq (flen v4.Runs) 0))) (t_runs_Valid v4.Runs) with
        | none => (rw [h10] at h; cases h)
        | some v11 =>
          simp only [h10] at h
          have f9 := fun (q0 : (bor (bor (bnot (u_region_ok v4.Y)) (band (igt s0 0) (ile v4.Y (((v8.getD (⟨0, (FS.nil : (FS api_Run))⟩ : api_Row))).Y)))) (ieq (flen v4.Runs) 0)) = false) => t_runs_Valid_ok (gOpt_getD false h10 (bnot_mk q0))
          by_cases c12 : (bor (bor (bor (bnot (u_region_ok v4.Y)) (band (igt s0 0) (ile v4.Y (((v8.getD (⟨0, (FS.nil : (FS api_Run))⟩ : api_Row))).Y)))) (ieq (flen v4.Runs) 0)) (bnot (v11.getD false))) = true
          · rw [if_pos c12] at h
            cases h
            show LK env [] 0 [1, 6, 7, 8] c57_L0 (some (t_region_Valid_L0_st _ _ _ _)) = some (t_region_Valid_L0_out _ _ _ _)
            simp only [t_region_Valid_L0_st, t_region_Valid_L0_out]
            rw [LK_step]
            rcases tof (u_region_ok v4.Y) with a13 | a13
            · rcases tof (igt s0 0) with a14 | a14
              · rcases tof (ile v4.Y (((v8.getD (⟨0, (FS.nil : (FS api_Run))⟩ : api_Row))).Y)) with a15 | a15
                · simp (maxSteps := 4000000) [c1, a13, a14, a15, f2, f5, f6, f9, e_i64, e_sl_api_Row, e_sl_api_Run, e_api_Cell, e_api_Region, e_api_Row, e_api_Run, ↓c57_L0_u, c57_0, c57_1, c57_2, c57_3, c57_4, c57_5, c57_6, c57_7, c57_8, c57_10]
                · rcases tof (ieq (flen v4.Runs) 0) with a16 | a16
                  · simp (maxSteps := 4000000) [c1, a13, a14, a15, a16, f2, f5, f6, f9, e_i64, e_sl_api_Row, e_sl_api_Run, e_api_Cell, e_api_Region, e_api_Row, e_api_Run, ↓c57_L0_u, c57_0, c57_1, c57_2, c57_3, c57_4, c57_5, c57_6, c57_7, c57_8, c57_10]
                  · rcases tof (v11.getD false) with a17 | a17
                    · simp [c1, a13, a14, a15, a16, a17] at c12
                    · simp (maxSteps := 4000000) [c1, a13, a14, a15, a16, a17, f2, f5, f6, f9, e_i64, e_sl_api_Row, e_sl_api_Run, e_api_Cell, e_api_Region, e_api_Row, e_api_Run, ↓c57_L0_u, c57_0, c57_1, c57_2, c57_3, c57_4, c57_5, c57_6, c57_7, c57_8, c57_10]
              · rcases tof (ieq (flen v4.Runs) 0) with a18 | a18
                · simp (maxSteps := 4000000) [c1, a13, a14, a18, f2, f5, f6, f9, e_i64, e_sl_api_Row, e_sl_api_Run, e_api_Cell, e_api_Region, e_api_Row, e_api_Run, ↓c57_L0_u, c57_0, c57_1, c57_2, c57_3, c57_4, c57_5, c57_6, c57_7, c57_8, c57_10]
                · rcases tof (v11.getD false) with a19 | a19
                  · simp [c1, a13, a14, a18, a19] at c12
                  · simp (maxSteps := 4000000) [c1, a13, a14, a18, a19, f2, f5, f6, f9, e_i64, e_sl_api_Row, e_sl_api_Run, e_api_Cell, e_api_Region, e_api_Row, e_api_Run, ↓c57_L0_u, c57_0, c57_1, c57_2, c57_3, c57_4, c57_5, c57_6, c57_7, c57_8, c57_10]
            · simp (maxSteps := 4000000) [c1, a13, f2, f5, f6, f9, e_i64, e_sl_api_Row, e_sl_api_Run, e_api_Cell, e_api_Region, e_api_Row, e_api_Run, ↓c57_L0_u, c57_0, c57_1, c57_2, c57_3, c57_4, c57_5, c57_6, c57_7, c57_8, c57_10]
          · rw [if_neg c12] at h
            rw [Bool.not_eq_true] at c12
            cases h21 : fget v4.Runs 0 with
            | none => (rw [h21] at h; cases h)
            | some v22 =>
              simp only [h21] at h
              have f20 := iaddr_F (e := e_api_Run) h21
              have f23 := u_region_ok_ok v22.From
              cases h25 : gOpt (bnot (bnot (u_region_ok v22.From))) (fget v4.Runs (isub .i64 (flen v4.Runs) 1)) with
              | none => (rw [h25] at h; cases h)
              | some v26 =>
                simp only [h25] at h
                have f24 := fun (q0 : (bnot (u_region_ok v22.From)) = false) => iaddr_F (e := e_api_Run) (gOpt_getD (⟨0, 0⟩ : api_Run) h25 (bnot_mk q0))
                have f27 := u_region_ok_ok (isub .i64 (((v26.getD (⟨0, 0⟩ : api_Run))).To) 1)
                by_cases c28 : (bor (bnot (u_region_ok v22.From)) (bnot (u_region_ok (isub .i64 (((v26.getD (⟨0, 0⟩ : api_Run))).To) 1)))) = true
                · rw [if_pos c28] at h
                  cases h
                  show LK env [] 0 [1, 6, 7, 8] c57_L0 (some (t_region_Valid_L0_st _ _ _ _)) = some (t_region_Valid_L0_out _ _ _ _)
                  simp only [t_region_Valid_L0_st, t_region_Valid_L0_out]
                  rw [LK_step]
                  rcases tof (u_region_ok v4.Y) with a29 | a29
                  · rcases tof (igt s0 0) with a30 | a30
                    · rcases tof (ile v4.Y (((v8.getD (⟨0, (FS.nil : (FS api_Run))⟩ : api_Row))).Y)) with a31 | a31
                      · simp [c1, a29, a30, a31] at c12
                      · rcases tof (ieq (flen v4.Runs) 0) with a32 | a32
                        · simp [c1, a29, a30, a31, a32] at c12
                        · rcases tof (v11.getD false) with a33 | a33
                          · rcases tof (u_region_ok v22.From) with a34 | a34
                            · rcases tof (u_region_ok (isub .i64 (((v26.getD (⟨0, 0⟩ : api_Run))).To) 1)) with a35 | a35
                              · simp [c1, a29, a30, a31, a32, a33, a34, a35] at c28
                              · simp (maxSteps := 4000000) [c1, a29, a30, a31, a32, a33, a34, a35, f2, f5, f6, f9, f20, f23, f24, f27, e_i64, e_sl_api_Row, e_sl_api_Run, e_api_Cell, e_api_Region, e_api_Row, e_api_Run, ↓c57_L0_u, c57_0, c57_1, c57_2, c57_3, c57_4, c57_5, c57_6, c57_7, c57_8, c57_10]
                            · simp (maxSteps := 4000000) [c1, a29, a30, a31, a32, a33, a34, f2, f5, f6, f9, f20, f23, f24, f27, e_i64, e_sl_api_Row, e_sl_api_Run, e_api_Cell, e_api_Region, e_api_Row, e_api_Run, ↓c57_L0_u, c57_0, c57_1, c57_2, c57_3, c57_4, c57_5, c57_6, c57_7, c57_8, c57_10]
                          · simp [c1, a29, a30, a31, a32, a33] at c12
                    · rcases tof (ieq (flen v4.Runs) 0) with a36 | a36
                      · simp [c1, a29, a30, a36] at c12
                      · rcases tof (v11.getD false) with a37 | a37
                        · rcases tof (u_region_ok v22.From) with a38 | a38
                          · rcases tof (u_region_ok (isub .i64 (((v26.getD (⟨0, 0⟩ : api_Run))).To) 1)) with a39 | a39
                            · simp [c1, a29, a30, a36, a37, a38, a39] at c28
                            · simp (maxSteps := 4000000) [c1, a29, a30, a36, a37, a38, a39, f2, f5, f6, f9, f20, f23, f24, f27, e_i64, e_sl_api_Row, e_sl_api_Run, e_api_Cell, e_api_Region, e_api_Row, e_api_Run, ↓c57_L0_u, c57_0, c57_1, c57_2, c57_3, c57_4, c57_5, c57_6, c57_7, c57_8, c57_10]
                          · simp (maxSteps := 4000000) [c1, a29, a30, a36, a37, a38, f2, f5, f6, f9, f20, f23, f24, f27, e_i64, e_sl_api_Row, e_sl_api_Run, e_api_Cell, e_api_Region, e_api_Row, e_api_Run, ↓c57_L0_u, c57_0, c57_1, c57_2, c57_3, c57_4, c57_5, c57_6, c57_7, c57_8, c57_10]
                        · simp [c1, a29, a30, a36, a37] at c12
                  · simp [c1, a29] at c12
                · rw [if_neg c28] at h
                  rw [Bool.not_eq_true] at c28
                  cases h
                  show LK env [] 0 [1, 6, 7, 8] c57_L0 (some (t_region_Valid_L0_st _ _ _ _)) = LK env [] 0 [1, 6, 7, 8] c57_L0 (some (t_region_Valid_L0_st _ _ _ _))
                  simp only [t_region_Valid_L0_st]
                  rw [LK_step]
                  rcases tof (u_region_ok v4.Y) with a40 | a40
                  · rcases tof (igt s0 0) with a41 | a41
                    · rcases tof (ile v4.Y (((v8.getD (⟨0, (FS.nil : (FS api_Run))⟩ : api_Row))).Y)) with a42 | a42
                      · simp [c1, a40, a41, a42] at c12
                      · rcases tof (ieq (flen v4.Runs) 0) with a43 | a43
                        · simp [c1, a40, a41, a42, a43] at c12
                        · rcases tof (v11.getD false) with a44 | a44
                          · rcases tof (u_region_ok v22.From) with a45 | a45
                            · rcases tof (u_region_ok (isub .i64 (((v26.getD (⟨0, 0⟩ : api_Run))).To) 1)) with a46 | a46
                              · simp (maxSteps := 4000000) [c1, a40, a41, a42, a43, a44, a45, a46, f2, f5, f6, f9, f20, f23, f24, f27, e_i64, e_sl_api_Row, e_sl_api_Run, e_api_Cell, e_api_Region, e_api_Row, e_api_Run, ↓c57_L0_u, c57_0, c57_1, c57_2, c57_3, c57_4, c57_5, c57_6, c57_7, c57_8, c57_10]
                              · simp [c1, a40, a41, a42, a43, a44, a45, a46] at c28
                            · simp [c1, a40, a41, a42, a43, a44, a45] at c28
                          · simp [c1, a40, a41, a42, a43, a44] at c12
                    · rcases tof (ieq (flen v4.Runs) 0) with a47 | a47
                      · simp [c1, a40, a41, a47] at c12
                      · rcases tof (v11.getD false) with a48 | a48
                        · rcases tof (u_region_ok v22.From) with a49 | a49
                          · rcases tof (u_region_ok (isub .i64 (((v26.getD (⟨0, 0⟩ : api_Run))).To) 1)) with a50 | a50
                            · simp (maxSteps := 4000000) [c1, a40, a41, a47, a48, a49, a50, f2, f5, f6, f9, f20, f23, f24, f27, e_i64, e_sl_api_Row, e_sl_api_Run, e_api_Cell, e_api_Region, e_api_Row, e_api_Run, ↓c57_L0_u, c57_0, c57_1, c57_2, c57_3, c57_4, c57_5, c57_6, c57_7, c57_8, c57_10]
                            · simp [c1, a40, a41, a47, a48, a49, a50] at c28
                          · simp [c1, a40, a41, a47, a48, a49] at c28
                        · simp [c1, a40, a41, a47, a48] at c12
                  · simp [c1, a40] at c12
  · rw [if_neg c1] at h
    rw [Bool.not_eq_true] at c1
    cases h
    show LK env [] 0 [1, 6, 7, 8] c57_L0 (some (t_region_Valid_L0_st _ _ _ _)) = some (t_region_Valid_L0_out _ _ _ _)
    simp only [t_region_Valid_L0_st, t_region_Valid_L0_out]
    rw [LK_step]
    simp (maxSteps := 4000000) [c1, e_i64, e_sl_api_Row, e_sl_api_Run, e_api_Cell, e_api_Region, e_api_Row, e_api_Run, ↓c57_L0_u, c57_0, c57_1, c57_2, c57_3, c57_4, c57_5, c57_6, c57_7, c57_8, c57_10]) bigN s r h
def t_region_Valid (p0 : api_Region) : Option Bool := (match loopT (t_region_Valid_L0 p0 p0.Rows (flen p0.Rows)) bigN 0 with
 | none => none
 | some v23 => (match v23 with
 | .inl v23x => some v23x
 | .inr v23x => some true))
theorem t_region_Valid_ok {p0 : api_Region} {r : Bool} (h : t_region_Valid p0 = some r) : FC env 57 [.agg [encF e_api_Row p0.Rows]] none = some (.bool r, fun _ => none) := by
  unfold t_region_Valid at h
  cases h51 : loopT (t_region_Valid_L0 p0 p0.Rows (flen p0.Rows)) bigN 0 with
  | none => (rw [h51] at h; cases h)
  | some v52 =>
    simp only [h51] at h
    have f53 := t_region_Valid_L0_ok h51
    cases v52 with
    | inl v52x =>
      try simp only at h
      simp only [t_region_Valid_L0_st, t_region_Valid_L0_out] at f53
      try simp only [fcase_nil, fcase_lst, fcase_fsnoc, fcase_fapp, fcase_fset, fcase_frep, fcase_flit, fcase_flst] at f53
      cases h
      refine FC_pure (lf := lf57) rfl rfl rfl ?_
      simp only [lf57, lc57, c57_0, c57_1, c57_2, c57_3, c57_4, c57_5, c57_6, c57_7, c57_8, c57_10]
      simp (maxSteps := 4000000) [f53, e_i64, e_sl_api_Row, e_sl_api_Run, e_api_Cell, e_api_Region, e_api_Row, e_api_Run, ↓c57_L0_u]
    | inr v52x =>
      try simp only at h
      simp only [t_region_Valid_L0_st, t_region_Valid_L0_out] at f53
      try simp only [fcase_nil, fcase_lst, fcase_fsnoc, fcase_fapp, fcase_fset, fcase_frep, fcase_flit, fcase_flst] at f53
      cases h
      refine FC_pure (lf := lf57) rfl rfl rfl ?_
      simp only [lf57, lc57, c57_0, c57_1, c57_2, c57_3, c57_4, c57_5, c57_6, c57_7, c57_8, c57_10]
      simp (maxSteps := 4000000) [f53, e_i64, e_sl_api_Row, e_sl_api_Run, e_api_Cell, e_api_Region, e_api_Row, e_api_Run, ↓c57_L0_u]

/-! cmp.isNaN[int] -/
def u_cmp_isNaN (p0 : Int) : Bool := (ine p0 p0)
def t_cmp_isNaN (p0 : Int) : Option Bool := some (u_cmp_isNaN p0)
theorem u_cmp_isNaN_ok (p0 : Int) : FC env 114 [.int .i64 p0] none = some (.bool (u_cmp_isNaN p0), fun _ => none) := by
  unfold u_cmp_isNaN
  refine FC_pure (lf := lf114) rfl rfl rfl ?_
  simp only [lf114, lc114, c114_0, c114_1]
  simp (maxSteps := 4000000) [e_i64, e_sl_api_Row, e_sl_api_Run, e_api_Cell, e_api_Region, e_api_Row, e_api_Run]
theorem t_cmp_isNaN_ok {p0 : Int} {r : Bool} (h : t_cmp_isNaN p0 = some r) : FC env 114 [.int .i64 p0] none = some (.bool r, fun _ => none) := by
  cases h
  exact u_cmp_isNaN_ok _

/-! cmp.Compare[int] -/
def t_cmp_Compare (p0 : Int) (p1 : Int) : Option Int := (if (u_cmp_isNaN p0) = true then (if (u_cmp_isNaN p1) = true then some 0
 else some (-1))
 else (if (u_cmp_isNaN p1) = true then some 1
 else (if (ilt p0 p1) = true then some (-1)
 else (if (igt p0 p1) = true then some 1
 else some 0))))
theorem t_cmp_Compare_ok {p0 : Int} {p1 : Int} {r : Int} (h : t_cmp_Compare p0 p1 = some r) : FC env 95 [.int .i64 p0, .int .i64 p1] none = some (.int .i64 r, fun _ => none) := by
  unfold t_cmp_Compare at h
  have f1 := u_cmp_isNaN_ok p0
  have f2 := u_cmp_isNaN_ok p1
  by_cases c3 : (u_cmp_isNaN p0) = true
  · rw [if_pos c3] at h
    by_cases c4 : (u_cmp_isNaN p1) = true
    · rw [if_pos c4] at h
      cases h
      refine FC_pure (lf := lf95) rfl rfl rfl ?_
      simp only [lf95, lc95, c95_0, c95_1, c95_2, c95_3, c95_4, c95_5, c95_6, c95_7, c95_8, c95_9, c95_10, c95_11, c95_12, c95_13]
      simp (maxSteps := 4000000) [c3, c4, f1, f2, e_i64, e_sl_api_Row, e_sl_api_Run, e_api_Cell, e_api_Region, e_api_Row, e_api_Run]
    · rw [if_neg c4] at h
      rw [Bool.not_eq_true] at c4
      cases h
      refine FC_pure (lf := lf95) rfl rfl rfl ?_
      simp only [lf95, lc95, c95_0, c95_1, c95_2, c95_3, c95_4, c95_5, c95_6, c95_7, c95_8, c95_9, c95_10, c95_11, c95_12, c95_13]
      simp (maxSteps := 4000000) [c3, c4, f1, f2, e_i64, e_sl_api_Row, e_sl_api_Run, e_api_Cell, e_api_Region, e_api_Row, e_api_Run]
  · rw [if_neg c3] at h
    rw [Bool.not_eq_true] at c3
    by_cases c5 : (u_cmp_isNaN p1) = true
    · rw [if_pos c5] at h
      cases h
      refine FC_pure (lf := lf95) rfl rfl rfl ?_
      simp only [lf95, lc95, c95_0, c95_1, c95_2, c95_3, c95_4, c95_5, c95_6, c95_7, c95_8, c95_9, c95_10, c95_11, c95_12, c95_13]
      simp (maxSteps := 4000000) [c3, c5, f1, f2, e_i64, e_sl_api_Row, e_sl_api_Run, e_api_Cell, e_api_Region, e_api_Row, e_api_Run]
    · rw [if_neg c5] at h
      rw [Bool.not_eq_true] at c5
      by_cases c6 : (ilt p0 p1) = true
      · rw [if_pos c6] at h
        cases h
        refine FC_pure (lf := lf95) rfl rfl rfl ?_
        simp only [lf95, lc95, c95_0, c95_1, c95_2, c95_3, c95_4, c95_5, c95_6, c95_7, c95_8, c95_9, c95_10, c95_11, c95_12, c95_13]
        simp (maxSteps := 4000000) [c3, c5, c6, f1, f2, e_i64, e_sl_api_Row, e_sl_api_Run, e_api_Cell, e_api_Region, e_api_Row, e_api_Run]
      · rw [if_neg c6] at h
        rw [Bool.not_eq_true] at c6
        by_cases c7 : (igt p0 p1) = true
        · rw [if_pos c7] at h
          cases h
          refine FC_pure (lf := lf95) rfl rfl rfl ?_
          simp only [lf95, lc95, c95_0, c95_1, c95_2, c95_3, c95_4, c95_5, c95_6, c95_7, c95_8, c95_9, c95_10, c95_11, c95_12, c95_13]
          simp (maxSteps := 4000000) [c3, c5, c6, c7, f1, f2, e_i64, e_sl_api_Row, e_sl_api_Run, e_api_Cell, e_api_Region, e_api_Row, e_api_Run]
        · rw [if_neg c7] at h
          rw [Bool.not_eq_true] at c7
          cases h
          refine FC_pure (lf := lf95) rfl rfl rfl ?_
          simp only [lf95, lc95, c95_0, c95_1, c95_2, c95_3, c95_4, c95_5, c95_6, c95_7, c95_8, c95_9, c95_10, c95_11, c95_12, c95_13]
          simp (maxSteps := 4000000) [c3, c5, c6, c7, f1, f2, e_i64, e_sl_api_Row, e_sl_api_Run, e_api_Cell, e_api_Region, e_api_Row, e_api_Run]

/-! region.row$1 -/
def t_region_row_1 (p0 : api_Row) (p1 : Int) : Option Int := (match t_cmp_Compare p0.Y p1 with
 | none => none
 | some v3 => some v3)
theorem t_region_row_1_ok {p0 : api_Row} {p1 : Int} {r : Int} (h : t_region_row_1 p0 p1 = some r) : FC env 94 [.agg [.int .i64 p0.Y, encF e_api_Run p0.Runs], .int .i64 p1] none = some (.int .i64 r, fun _ => none) := by
  unfold t_region_row_1 at h
  cases h2 : t_cmp_Compare p0.Y p1 with
  | none => (rw [h2] at h; cases h)
  | some v3 =>
    simp only [h2] at h
    have f1 := t_cmp_Compare_ok h2
    cases h
    refine FC_pure (lf := lf94) rfl rfl rfl ?_
    simp only [lf94, lc94, c94_0, c94_1]
    simp (maxSteps := 4000000) [f1, e_i64, e_sl_api_Row, e_sl_api_Run, e_api_Cell, e_api_Region, e_api_Row, e_api_Run]

/-! api.Row,int] -/
theorem c93_L0_u (Γ : Env) (ps : List Nat) (σ : St) : EC Γ ps 0 c93_L0 σ = EC Γ ps 0 (.seq (.seq (.reg false c93_3) (.cond (.t 17) .skip (.seq (.trim [0, 1, 2, 8, 9]) (.exit 0)))) (.blk 1 (.seq (.reg false c93_4) (.seq (.reg false c93_5) (.cond (.t 31) (.reg false c93_6) (.reg false c93_7)))))) σ := rfl
def t_slices_BinarySearchFunc_api_Row_api_Row_int_region_row_1_L0 (k0 : (FS api_Row)) (k1 : Int) (k2 : Int) (s : (Int × Int)) : Option (LR (Int × Int) Int) := match s with
 | (s0, s1) => (if (ilt s0 s1) = true then (match fget k0 (icnv .i64 (ishr .u64 (icnv .u64 (iadd .i64 s0 s1)) 1)) with
 | none => none
 | some v4 => (match t_region_row_1 v4 k1 with
 | none => none
 | some v7 => (if (ilt v7 0) = true then some (.nx ((iadd .i64 (icnv .i64 (ishr .u64 (icnv .u64 (iadd .i64 s0 s1)) 1)) 1), s1))
 else some (.nx (s0, (icnv .i64 (ishr .u64 (icnv .u64 (iadd .i64 s0 s1)) 1)))))))
 else some (.dn s0))
def t_slices_BinarySearchFunc_api_Row_api_Row_int_region_row_1_L0_st (k0 : (FS api_Row)) (k1 : Int) (k2 : Int) (s : (Int × Int)) : St := match s with
 | (s0, s1) => ⟨fr [(0, encF e_api_Row k0), (1, .int .i64 k1), (2, .fn 94 []), (8, .int .i64 k2), (9, .int .i64 s0), (10, .int .i64 s1)], hl []⟩
def t_slices_BinarySearchFunc_api_Row_api_Row_int_region_row_1_L0_out (k0 : (FS api_Row)) (k1 : Int) (k2 : Int) (x : Int) : LE × St := (.exit 0, ⟨fr [(0, encF e_api_Row k0), (1, .int .i64 k1), (2, .fn 94 []), (8, .int .i64 k2), (9, .int .i64 x)], hl []⟩)
theorem t_slices_BinarySearchFunc_api_Row_api_Row_int_region_row_1_L0_ok {k0 : (FS api_Row)} {k1 : Int} {k2 : Int} {s : (Int × Int)} {r : Int} (h : loopT (t_slices_BinarySearchFunc_api_Row_api_Row_int_region_row_1_L0 k0 k1 k2) bigN s = some r) : LK env [] 0 [0, 1, 2, 8, 9, 10] c93_L0 (some (t_slices_BinarySearchFunc_api_Row_api_Row_int_region_row_1_L0_st k0 k1 k2 s)) = some (t_slices_BinarySearchFunc_api_Row_api_Row_int_region_row_1_L0_out k0 k1 k2 r) := loop_walk (st := t_slices_BinarySearchFunc_api_Row_api_Row_int_region_row_1_L0_st k0 k1 k2) (out := t_slices_BinarySearchFunc_api_Row_api_Row_int_region_row_1_L0_out k0 k1 k2) (by
  clear h s r
  rintro ⟨s0, s1⟩ x h
  simp only [t_slices_BinarySearchFunc_api_Row_api_Row_int_region_row_1_L0] at h
  by_cases c1 : (ilt s0 s1) = true
  · rw [if_pos c1] at h
    cases h3 : fget k0 (icnv .i64 (ishr .u64 (icnv .u64 (iadd .i64 s0 s1)) 1)) with
    | none => (rw [h3] at h; cases h)
    | some v4 =>
      simp only [h3] at h
      have f2 := iaddr_F (e := e_api_Row) h3
      cases h6 : t_region_row_1 v4 k1 with
      | none => (rw [h6] at h; cases h)
      | some v7 =>
        simp only [h6] at h
        have f5 := t_region_row_1_ok h6
        by_cases c8 : (ilt v7 0) = true
        · rw [if_pos c8] at h
          cases h
          show LK env [] 0 [0, 1, 2, 8, 9, 10] c93_L0 (some (t_slices_BinarySearchFunc_api_Row_api_Row_int_region_row_1_L0_st _ _ _ _)) = LK env [] 0 [0, 1, 2, 8, 9, 10] c93_L0 (some (t_slices_BinarySearchFunc_api_Row_api_Row_int_region_row_1_L0_st _ _ _ _))
          simp only [t_slices_BinarySearchFunc_api_Row_api_Row_int_region_row_1_L0_st]
          rw [LK_step]
          simp (maxSteps := 4000000) [c1, c8, (show ilt 1 0 = false from rfl), f2, f5, e_i64, e_sl_api_Row, e_sl_api_Run, e_api_Cell, e_api_Region, e_api_Row, e_api_Run, ↓c93_L0_u, c93_0, c93_1, c93_2, c93_3, c93_4, c93_5, c93_6, c93_7, c93_9]
        · rw [if_neg c8] at h
          rw [Bool.not_eq_true] at c8
          cases h
          show LK env [] 0 [0, 1, 2, 8, 9, 10] c93_L0 (some (t_slices_BinarySearchFunc_api_Row_api_Row_int_region_row_1_L0_st _ _ _ _)) = LK env [] 0 [0, 1, 2, 8, 9, 10] c93_L0 (some (t_slices_BinarySearchFunc_api_Row_api_Row_int_region_row_1_L0_st _ _ _ _))
          simp only [t_slices_BinarySearchFunc_api_Row_api_Row_int_region_row_1_L0_st]
          rw [LK_step]
          simp (maxSteps := 4000000) [c1, c8, (show ilt 1 0 = false from rfl), f2, f5, e_i64, e_sl_api_Row, e_sl_api_Run, e_api_Cell, e_api_Region, e_api_Row, e_api_Run, ↓c93_L0_u, c93_0, c93_1, c93_2, c93_3, c93_4, c93_5, c93_6, c93_7, c93_9]
  · rw [if_neg c1] at h
    rw [Bool.not_eq_true] at c1
    cases h
    show LK env [] 0 [0, 1, 2, 8, 9, 10] c93_L0 (some (t_slices_BinarySearchFunc_api_Row_api_Row_int_region_row_1_L0_st _ _ _ _)) = some (t_slices_BinarySearchFunc_api_Row_api_Row_int_region_row_1_L0_out _ _ _ _)
    simp only [t_slices_BinarySearchFunc_api_Row_api_Row_int_region_row_1_L0_st, t_slices_BinarySearchFunc_api_Row_api_Row_int_region_row_1_L0_out]
    rw [LK_step]
    simp (maxSteps := 4000000) [c1, e_i64, e_sl_api_Row, e_sl_api_Run, e_api_Cell, e_api_Region, e_api_Row, e_api_Run, ↓c93_L0_u, c93_0, c93_1, c93_2, c93_3, c93_4, c93_5, c93_6, c93_7, c93_9]) bigN s r h
def t_slices_BinarySearchFunc_api_Row_api_Row_int_region_row_1 (p0 : (FS api_Row)) (p1 : Int) : Option (Int × Bool) := (match loopT (t_slices_BinarySearchFunc_api_Row_api_Row_int_region_row_1_L0 p0 p1 (flen p0)) bigN (0, (flen p0)) with
 | none => none
 | some v10 => (match gOpt (ilt v10 (flen p0)) (fget p0 v10) with
 | none => none
 | some v14 => (match gOpt (ilt v10 (flen p0)) (t_region_row_1 (v14.getD (⟨0, (FS.nil : (FS api_Run))⟩ : api_Row)) p1) with
 | none => none
 | some v17 => some (v10, (band (ilt v10 (flen p0)) (ieq (v17.getD 0) 0))))))
theorem t_slices_BinarySearchFunc_api_Row_api_Row_int_region_row_1_ok {p0 : (FS api_Row)} {p1 : Int} {r : (Int × Bool)} (h : t_slices_BinarySearchFunc_api_Row_api_Row_int_region_row_1 p0 p1 = some r) : FC env 93 [encF e_api_Row p0, .int .i64 p1, .fn 94 []] none = some (.tup [.int .i64 r.1, .bool r.2], fun _ => none) := by
  unfold t_slices_BinarySearchFunc_api_Row_api_Row_int_region_row_1 at h
  cases h9 : loopT (t_slices_BinarySearchFunc_api_Row_api_Row_int_region_row_1_L0 p0 p1 (flen p0)) bigN (0, (flen p0)) with
  | none => (rw [h9] at h; cases h)
  | some v10 =>
    simp only [h9] at h
    have f11 := t_slices_BinarySearchFunc_api_Row_api_Row_int_region_row_1_L0_ok h9
    simp only [t_slices_BinarySearchFunc_api_Row_api_Row_int_region_row_1_L0_st, t_slices_BinarySearchFunc_api_Row_api_Row_int_region_row_1_L0_out] at f11
    try simp only [fcase_nil, fcase_lst, fcase_fsnoc, fcase_fapp, fcase_fset, fcase_frep, fcase_flit, fcase_flst] at f11
    cases h13 : gOpt (ilt v10 (flen p0)) (fget p0 v10) with
    | none => (rw [h13] at h; cases h)
    | some v14 =>
      simp only [h13] at h
      have f12 := fun (q0 : (ilt v10 (flen p0)) = true) => iaddr_F (e := e_api_Row) (gOpt_getD (⟨0, (FS.nil : (FS api_Run))⟩ : api_Row) h13 q0)
      cases h16 : gOpt (ilt v10 (flen p0)) (t_region_row_1 (v14.getD (⟨0, (FS.nil : (FS api_Run))⟩ : api_Row)) p1) with
      | none => (rw [h16] at h; cases h)
      | some v17 =>
        simp only [h16] at h
        have f15 := fun (q0 : (ilt v10 (flen p0)) = true) => t_region_row_1_ok (gOpt_getD 0 h16 q0)
        cases h
        refine FC_pure (lf := lf93) rfl rfl rfl ?_
        simp only [lf93, lc93, c93_0, c93_1, c93_2, c93_3, c93_4, c93_5, c93_6, c93_7, c93_9]
        rcases tof (ilt v10 (flen p0)) with a18 | a18
        · try simp only [a18] at f11
          simp (maxSteps := 4000000) [a18, f11, f12, f15, e_i64, e_sl_api_Row, e_sl_api_Run, e_api_Cell, e_api_Region, e_api_Row, e_api_Run, ↓c93_L0_u, snap_tupE, tupS, snap7_int, snap7_bool, snap7_str, snap7_nils, snap7_agg]
        · try simp only [a18] at f11
          simp (maxSteps := 4000000) [a18, f11, f12, f15, e_i64, e_sl_api_Row, e_sl_api_Run, e_api_Cell, e_api_Region, e_api_Row, e_api_Run, ↓c93_L0_u, snap_tupE, tupS, snap7_int, snap7_bool, snap7_str, snap7_nils, snap7_agg]

/-! region.row -/
def t_region_row (p0 : api_Region) (p1 : Int) : Option (FS api_Run) := (match t_slices_BinarySearchFunc_api_Row_api_Row_int_region_row_1 p0.Rows p1 with
 | none => none
 | some v3 => (if (bnot v3.2) = true then some (FS.nil : (FS api_Run))
 else (match fget p0.Rows v3.1 with
 | none => none
 | some v7 => some v7.Runs)))
theorem t_region_row_ok {p0 : api_Region} {p1 : Int} {r : (FS api_Run)} (h : t_region_row p0 p1 = some r) : FC env 59 [.agg [encF e_api_Row p0.Rows], .int .i64 p1] none = some (encF e_api_Run r, fun _ => none) := by
  unfold t_region_row at h
  cases h2 : t_slices_BinarySearchFunc_api_Row_api_Row_int_region_row_1 p0.Rows p1 with
  | none => (rw [h2] at h; cases h)
  | some v3 =>
    simp only [h2] at h
    have f1 := t_slices_BinarySearchFunc_api_Row_api_Row_int_region_row_1_ok h2
    by_cases c4 : (bnot v3.2) = true
    · rw [if_pos c4] at h
      cases h
      refine FC_pure (lf := lf59) rfl rfl rfl ?_
      simp only [lf59, lc59, c59_0, c59_1, c59_2, c59_3, c59_4]
      rcases tof v3.2 with a5 | a5
      · simp [a5] at c4
      · simp (maxSteps := 4000000) [a5, f1, e_i64, e_sl_api_Row, e_sl_api_Run, e_api_Cell, e_api_Region, e_api_Row, e_api_Run]
    · rw [if_neg c4] at h
      rw [Bool.not_eq_true] at c4
      cases h7 : fget p0.Rows v3.1 with
      | none => (rw [h7] at h; cases h)
      | some v8 =>
        simp only [h7] at h
        have f6 := iaddr_F (e := e_api_Row) h7
        cases h
        refine FC_pure (lf := lf59) rfl rfl rfl ?_
        simp only [lf59, lc59, c59_0, c59_1, c59_2, c59_3, c59_4]
        rcases tof v3.2 with a9 | a9
        · simp (maxSteps := 4000000) [a9, f1, f6, e_i64, e_sl_api_Row, e_sl_api_Run, e_api_Cell, e_api_Region, e_api_Row, e_api_Run]
        · simp [a9] at c4

/-! runs.Contains$1 -/
def u_runs_Contains_1 (p0 : api_Run) (p1 : Int) : Bool := (band (ile p0.From p1) (ilt p1 p0.To))
def t_runs_Contains_1 (p0 : api_Run) (p1 : Int) : Option Bool := some (u_runs_Contains_1 p0 p1)
theorem u_runs_Contains_1_ok (p0 : api_Run) (p1 : Int) : FC env 92 [.agg [.int .i64 p0.From, .int .i64 p0.To], .rptr [.int .i64 p1]] none = some (.bool (u_runs_Contains_1 p0 p1), fun _ => none) := by
  unfold u_runs_Contains_1
  refine FC_pure (lf := lf92) rfl rfl rfl ?_
  simp only [lf92, lc92, c92_0, c92_1]
  rcases tof (ile p0.From p1) with a1 | a1
  · simp (maxSteps := 4000000) [a1, e_i64, e_sl_api_Row, e_sl_api_Run, e_api_Cell, e_api_Region, e_api_Row, e_api_Run]
  · simp (maxSteps := 4000000) [a1, e_i64, e_sl_api_Row, e_sl_api_Run, e_api_Cell, e_api_Region, e_api_Row, e_api_Run]
theorem t_runs_Contains_1_ok {p0 : api_Run} {p1 : Int} {r : Bool} (h : t_runs_Contains_1 p0 p1 = some r) : FC env 92 [.agg [.int .i64 p0.From, .int .i64 p0.To], .rptr [.int .i64 p1]] none = some (.bool r, fun _ => none) := by
  cases h
  exact u_runs_Contains_1_ok _ _

/-! api.Run] -/
theorem c113_L0_u (Γ : Env) (ps : List Nat) (σ : St) : EC Γ ps 0 c113_L0 σ = EC Γ ps 0 (.seq (.reg false c113_2) (.seq (.cond (.t 9) .skip (.seq (.trim []) (.exit 0))) (.seq (.blk 1 (.seq (.reg false c113_3) (.seq (.reg false c113_4) (.cond (.t 16) (.seq (.reg false c113_5) (.seq (.trim [4]) .ret)) .skip)))) (.reg false c113_6)))) σ := rfl
def t_slices_IndexFunc_api_Run_api_Run_runs_Contains_1_L0 (k0 : (FS api_Run)) (k1 : Int) (k2 : Int) (s : Int) : Option (LR Int (Int ⊕ Unit)) := match s with
 | s0 => (if (ilt s0 k2) = true then (match fget k0 s0 with
 | none => none
 | some v4 => (if (u_runs_Contains_1 v4 k1) = true then some (.dn (.inl s0))
 else some (.nx (iadd .i64 s0 1))))
 else some (.dn (.inr ())))
def t_slices_IndexFunc_api_Run_api_Run_runs_Contains_1_L0_st (k0 : (FS api_Run)) (k1 : Int) (k2 : Int) (s : Int) : St := match s with
 | s0 => ⟨fr [(0, encF e_api_Run k0), (1, .fn 92 [.rptr [.int .i64 k1]]), (7, .int .i64 k2), (8, .int .i64 s0)], hl []⟩
def t_slices_IndexFunc_api_Run_api_Run_runs_Contains_1_L0_out (k0 : (FS api_Run)) (k1 : Int) (k2 : Int) (x : (Int ⊕ Unit)) : LE × St := match x with
 | .inl x => (.ret, ⟨fr [(4, .int .i64 x)], hl []⟩)
 | .inr x => (.exit 0, ⟨fr [], hl []⟩)
theorem t_slices_IndexFunc_api_Run_api_Run_runs_Contains_1_L0_ok {k0 : (FS api_Run)} {k1 : Int} {k2 : Int} {s : Int} {r : (Int ⊕ Unit)} (h : loopT (t_slices_IndexFunc_api_Run_api_Run_runs_Contains_1_L0 k0 k1 k2) bigN s = some r) : LK env [] 0 [0, 1, 7, 8] c113_L0 (some (t_slices_IndexFunc_api_Run_api_Run_runs_Contains_1_L0_st k0 k1 k2 s)) = some (t_slices_IndexFunc_api_Run_api_Run_runs_Contains_1_L0_out k0 k1 k2 r) := loop_walk (st := t_slices_IndexFunc_api_Run_api_Run_runs_Contains_1_L0_st k0 k1 k2) (out := t_slices_IndexFunc_api_Run_api_Run_runs_Contains_1_L0_out k0 k1 k2) (by
  clear h s r
  rintro s0 x h
  simp only [t_slices_IndexFunc_api_Run_api_Run_runs_Contains_1_L0] at h
  by_cases c1 : (ilt s0 k2) = true
  · rw [if_pos c1] at h
    cases h3 : fget k0 s0 with
    | none => (rw [h3] at h; cases h)
    | some v4 =>
      simp only [h3] at h
      have f2 := iaddr_F (e := e_api_Run) h3
      have f5 := u_runs_Contains_1_ok v4 k1
      by_cases c6 : (u_runs_Contains_1 v4 k1) = true
      · rw [if_pos c6] at h
        cases h
        show LK env [] 0 [0, 1, 7, 8] c113_L0 (some (t_slices_IndexFunc_api_Run_api_Run_runs_Contains_1_L0_st _ _ _ _)) = some (t_slices_IndexFunc_api_Run_api_Run_runs_Contains_1_L0_out _ _ _ _)
        simp only [t_slices_IndexFunc_api_Run_api_Run_runs_Contains_1_L0_st, t_slices_IndexFunc_api_Run_api_Run_runs_Contains_1_L0_out]
        rw [LK_step]
        simp (maxSteps := 4000000) [c1, c6, f2, f5, e_i64, e_sl_api_Row, e_sl_api_Run, e_api_Cell, e_api_Region, e_api_Row, e_api_Run, ↓c113_L0_u, c113_0, c113_1, c113_2, c113_3, c113_4, c113_5, c113_6, c113_8]
      · rw [if_neg c6] at h
        rw [Bool.not_eq_true] at c6
        cases h
        show LK env [] 0 [0, 1, 7, 8] c113_L0 (some (t_slices_IndexFunc_api_Run_api_Run_runs_Contains_1_L0_st _ _ _ _)) = LK env [] 0 [0, 1, 7, 8] c113_L0 (some (t_slices_IndexFunc_api_Run_api_Run_runs_Contains_1_L0_st _ _ _ _))
        simp only [t_slices_IndexFunc_api_Run_api_Run_runs_Contains_1_L0_st]
        rw [LK_step]
        simp (maxSteps := 4000000) [c1, c6, f2, f5, e_i64, e_sl_api_Row, e_sl_api_Run, e_api_Cell, e_api_Region, e_api_Row, e_api_Run, ↓c113_L0_u, c113_0, c113_1, c113_2, c113_3, c113_4, c113_5, c113_6, c113_8]
  · rw [if_neg c1] at h
    rw [Bool.not_eq_true] at c1
    cases h
    show LK env [] 0 [0, 1, 7, 8] c113_L0 (some (t_slices_IndexFunc_api_Run_api_Run_runs_Contains_1_L0_st _ _ _ _)) = some (t_slices_IndexFunc_api_Run_api_Run_runs_Contains_1_L0_out _ _ _ _)
    simp only [t_slices_IndexFunc_api_Run_api_Run_runs_Contains_1_L0_st, t_slices_IndexFunc_api_Run_api_Run_runs_Contains_1_L0_out]
    rw [LK_step]
    simp (maxSteps := 4000000) [c1, e_i64, e_sl_api_Row, e_sl_api_Run, e_api_Cell, e_api_Region, e_api_Row, e_api_Run, ↓c113_L0_u, c113_0, c113_1, c113_2, c113_3, c113_4, c113_5, c113_6, c113_8]) bigN s r h
def t_slices_IndexFunc_api_Run_api_Run_runs_Contains_1 (p0 : (FS api_Run)) (p1_0 : Int) : Option Int := (match loopT (t_slices_IndexFunc_api_Run_api_Run_runs_Contains_1_L0 p0 p1_0 (flen p0)) bigN 0 with
 | none => none
 | some v8 => (match v8 with
 | .inl v8x => some v8x
 | .inr v8x => some (-1)))
theorem t_slices_IndexFunc_api_Run_api_Run_runs_Contains_1_ok {p0 : (FS api_Run)} {p1_0 : Int} {r : Int} (h : t_slices_IndexFunc_api_Run_api_Run_runs_Contains_1 p0 p1_0 = some r) : FC env 113 [encF e_api_Run p0, .fn 92 [.rptr [.int .i64 p1_0]]] none = some (.int .i64 r, fun _ => none) := by
  unfold t_slices_IndexFunc_api_Run_api_Run_runs_Contains_1 at h
  cases h7 : loopT (t_slices_IndexFunc_api_Run_api_Run_runs_Contains_1_L0 p0 p1_0 (flen p0)) bigN 0 with
  | none => (rw [h7] at h; cases h)
  | some v8 =>
    simp only [h7] at h
    have f9 := t_slices_IndexFunc_api_Run_api_Run_runs_Contains_1_L0_ok h7
    cases v8 with
    | inl v8x =>
      try simp only at h
      simp only [t_slices_IndexFunc_api_Run_api_Run_runs_Contains_1_L0_st, t_slices_IndexFunc_api_Run_api_Run_runs_Contains_1_L0_out] at f9
      try simp only [fcase_nil, fcase_lst, fcase_fsnoc, fcase_fapp, fcase_fset, fcase_frep, fcase_flit, fcase_flst] at f9
      cases h
      refine FC_pure (lf := lf113) rfl rfl rfl ?_
      simp only [lf113, lc113, c113_0, c113_1, c113_2, c113_3, c113_4, c113_5, c113_6, c113_8]
      simp (maxSteps := 4000000) [f9, e_i64, e_sl_api_Row, e_sl_api_Run, e_api_Cell, e_api_Region, e_api_Row, e_api_Run, ↓c113_L0_u]
    | inr v8x =>
      try simp only at h
      simp only [t_slices_IndexFunc_api_Run_api_Run_runs_Contains_1_L0_st, t_slices_IndexFunc_api_Run_api_Run_runs_Contains_1_L0_out] at f9
      try simp only [fcase_nil, fcase_lst, fcase_fsnoc, fcase_fapp, fcase_fset, fcase_frep, fcase_flit, fcase_flst] at f9
      cases h
      refine FC_pure (lf := lf113) rfl rfl rfl ?_
      simp only [lf113, lc113, c113_0, c113_1, c113_2, c113_3, c113_4, c113_5, c113_6, c113_8]
      simp (maxSteps := 4000000) [f9, e_i64, e_sl_api_Row, e_sl_api_Run, e_api_Cell, e_api_Region, e_api_Row, e_api_Run, ↓c113_L0_u]

/-! api.Run] -/
def t_slices_ContainsFunc_api_Run_api_Run_runs_Contains_1 (p0 : (FS api_Run)) (p1_0 : Int) : Option Bool := (match t_slices_IndexFunc_api_Run_api_Run_runs_Contains_1 p0 p1_0 with
 | none => none
 | some v3 => some (ige v3 0))
theorem t_slices_ContainsFunc_api_Run_api_Run_runs_Contains_1_ok {p0 : (FS api_Run)} {p1_0 : Int} {r : Bool} (h : t_slices_ContainsFunc_api_Run_api_Run_runs_Contains_1 p0 p1_0 = some r) : FC env 91 [encF e_api_Run p0, .fn 92 [.rptr [.int .i64 p1_0]]] none = some (.bool r, fun _ => none) := by
  unfold t_slices_ContainsFunc_api_Run_api_Run_runs_Contains_1 at h
  cases h2 : t_slices_IndexFunc_api_Run_api_Run_runs_Contains_1 p0 p1_0 with
  | none => (rw [h2] at h; cases h)
  | some v3 =>
    simp only [h2] at h
    have f1 := t_slices_IndexFunc_api_Run_api_Run_runs_Contains_1_ok h2
    cases h
    refine FC_pure (lf := lf91) rfl rfl rfl ?_
    simp only [lf91, lc91, c91_0, c91_1]
    simp (maxSteps := 4000000) [f1, e_i64, e_sl_api_Row, e_sl_api_Run, e_api_Cell, e_api_Region, e_api_Row, e_api_Run]

/-! runs.Contains -/
def t_runs_Contains (p0 : (FS api_Run)) (p1 : Int) : Option Bool := (match t_runs_Valid p0 with
 | none => none
 | some v3 => (if (bnot v3) = true then some false
 else (match t_slices_ContainsFunc_api_Run_api_Run_runs_Contains_1 p0 p1 with
 | none => none
 | some v7 => some v7)))
theorem t_runs_Contains_ok {p0 : (FS api_Run)} {p1 : Int} {r : Bool} (h : t_runs_Contains p0 p1 = some r) : FC env 58 [encF e_api_Run p0, .int .i64 p1] none = some (.bool r, fun _ => none) := by
  unfold t_runs_Contains at h
  cases h2 : t_runs_Valid p0 with
  | none => (rw [h2] at h; cases h)
  | some v3 =>
    simp only [h2] at h
    have f1 := t_runs_Valid_ok h2
    by_cases c4 : (bnot v3) = true
    · rw [if_pos c4] at h
      cases h
      refine FC_pure (lf := lf58) rfl rfl rfl ?_
      simp only [lf58, lc58, c58_0, c58_1, c58_2, c58_3]
      rcases tof v3 with a5 | a5
      · simp [a5] at c4
      · simp (maxSteps := 4000000) [a5, f1, e_i64, e_sl_api_Row, e_sl_api_Run, e_api_Cell, e_api_Region, e_api_Row, e_api_Run]
    · rw [if_neg c4] at h
      rw [Bool.not_eq_true] at c4
      cases h7 : t_slices_ContainsFunc_api_Run_api_Run_runs_Contains_1 p0 p1 with
      | none => (rw [h7] at h; cases h)
      | some v8 =>
        simp only [h7] at h
        have f6 := t_slices_ContainsFunc_api_Run_api_Run_runs_Contains_1_ok h7
        cases h
        refine FC_pure (lf := lf58) rfl rfl rfl ?_
        simp only [lf58, lc58, c58_0, c58_1, c58_2, c58_3]
        rcases tof v3 with a9 | a9
        · simp (maxSteps := 4000000) [a9, f1, f6, e_i64, e_sl_api_Row, e_sl_api_Run, e_api_Cell, e_api_Region, e_api_Row, e_api_Run]
        · simp [a9] at c4

/-! region.Contains -/
def t_region_Contains (p0 : api_Region) (p1 : api_Cell) : Option Bool := (match t_region_Valid p0 with
 | none => none
 | some v3 => (match gOpt v3 (t_region_row p0 p1.Y) with
 | none => none
 | some v6 => (match gOpt v3 (t_runs_Contains (v6.getD (FS.nil : (FS api_Run))) p1.X) with
 | none => none
 | some v9 => some (band v3 (v9.getD false)))))
theorem t_region_Contains_ok {p0 : api_Region} {p1 : api_Cell} {r : Bool} (h : t_region_Contains p0 p1 = some r) : FC env 29 [.agg [encF e_api_Row p0.Rows], .agg [.int .i64 p1.X, .int .i64 p1.Y]] none = some (.bool r, fun _ => none) := by
  unfold t_region_Contains at h
  cases h2 : t_region_Valid p0 with
  | none => (rw [h2] at h; cases h)
  | some v3 =>
    simp only [h2] at h
    have f1 := t_region_Valid_ok h2
    cases h5 : gOpt v3 (t_region_row p0 p1.Y) with
    | none => (rw [h5] at h; cases h)
    | some v6 =>
      simp only [h5] at h
      have f4 := fun (q0 : v3 = true) => t_region_row_ok (gOpt_getD (FS.nil : (FS api_Run)) h5 q0)
      cases h8 : gOpt v3 (t_runs_Contains (v6.getD (FS.nil : (FS api_Run))) p1.X) with
      | none => (rw [h8] at h; cases h)
      | some v9 =>
        simp only [h8] at h
        have f7 := fun (q0 : v3 = true) => t_runs_Contains_ok (gOpt_getD false h8 q0)
        cases h
        refine FC_pure (lf := lf29) rfl rfl rfl ?_
        simp only [lf29, lc29, c29_0, c29_1]
        rcases tof v3 with a10 | a10
        · simp (maxSteps := 4000000) [a10, f1, f4, f7, e_i64, e_sl_api_Row, e_sl_api_Run, e_api_Cell, e_api_Region, e_api_Row, e_api_Run]
        · simp (maxSteps := 4000000) [a10, f1, f4, f7, e_i64, e_sl_api_Row, e_sl_api_Run, e_api_Cell, e_api_Region, e_api_Row, e_api_Run]

/-! comb.search -/
theorem c48_L0_u (Γ : Env) (ps : List Nat) (σ : St) : EC Γ ps 0 c48_L0 σ = EC Γ ps 0 (.seq (.reg false c48_8) (.seq (.cond (.t 57) .skip (.seq (.trim [3, 5, 7, 8]) (.exit 2))) (.seq (.blk 3 (.seq (.reg false c48_9) (.seq (.reg false c48_10) (.seq (.reg false c48_11) (.cond (.t 71) (.seq (.reg false c48_12) (.reg false c48_13)) .skip))))) (.reg false c48_14)))) σ := rfl
theorem c48_L1_u (Γ : Env) (ps : List Nat) (σ : St) : EC Γ ps 0 c48_L1 σ = EC Γ ps 0 (.seq (.seq (.reg false c48_3) (.cond (.t 22) .skip (.seq (.trim [7]) (.exit 0)))) (.blk 1 (.seq (.reg false c48_4) (.seq (.reg false c48_5) (.seq (.seq (.reg false c48_6) (.cond (.t 30) (.seq (.trim [7]) (.exit 0)) .skip)) (.seq (.reg false c48_7) (.blk 2 (.loop [3, 5, 7, 8, 9, 55, 56] c48_L0)))))))) σ := rfl
def t_comb_search_L0 (k0 : api_Region) (k1 : api_Cell) (k2 : api_Cell) (k3 : (A4 api_Cell)) (s : ((List (api_Cell × api_Cell)) × (FS api_Cell) × Int)) : Option (LR ((List (api_Cell × api_Cell)) × (FS api_Cell) × Int) ((List (api_Cell × api_Cell)) × (FS api_Cell))) := match s with
 | (s0, s1, s2) => (if (ilt s2 4) = true then (if inB s2 4 = true then (match gOpt (bnot (mhas q_api_Cell s0 (A4.get k3 s2))) (t_region_Contains k0 (A4.get k3 s2)) with
 | none => none
 | some v23 => (if (band (bnot (mhas q_api_Cell s0 (A4.get k3 s2))) (v23.getD false)) = true then (if fits 16 ((flen s1) + 1) = true then some (.nx ((mset q_api_Cell s0 (A4.get k3 s2) k2), (fsnoc s1 (A4.get k3 s2)), (iadd .i64 s2 1))) else none)
 else some (.nx (s0, s1, (iadd .i64 s2 1))))) else none)
 else some (.dn (s0, s1)))
def t_comb_search_L0_st (k0 : api_Region) (k1 : api_Cell) (k2 : api_Cell) (k3 : (A4 api_Cell)) (s : ((List (api_Cell × api_Cell)) × (FS api_Cell) × Int)) : St := match s with
 | (s0, s1, s2) => ⟨fr [(3, .ptr 3 0 0), (5, .ptr 5 0 0), (7, .map 7 0), (8, .arr 8 0 0 s1.l.length), (9, .ptr 9 0 0), (55, .agg [.int .i64 k3.a0.X, .int .i64 k3.a0.Y, .int .i64 k3.a1.X, .int .i64 k3.a1.Y, .int .i64 k3.a2.X, .int .i64 k3.a2.Y, .int .i64 k3.a3.X, .int .i64 k3.a3.Y]), (56, .int .i64 s2)], hl [(3, .box 0 [encF e_api_Row k0.Rows]), (5, .box 0 [.int .i64 k1.X, .int .i64 k1.Y]), (7, .map 0 (encM k_api_Cell v_api_Cell s0) false), (8, .arr 0 2 26 (cellsE e_api_Cell s1.l) false), (9, .box 0 [.int .i64 k2.X, .int .i64 k2.Y])]⟩
def t_comb_search_L0_out (k0 : api_Region) (k1 : api_Cell) (k2 : api_Cell) (k3 : (A4 api_Cell)) (x : ((List (api_Cell × api_Cell)) × (FS api_Cell))) : LE × St := (.exit 2, ⟨fr [(3, .ptr 3 0 0), (5, .ptr 5 0 0), (7, .map 7 0), (8, .arr 8 0 0 x.2.l.length)], hl [(3, .box 0 [encF e_api_Row k0.Rows]), (5, .box 0 [.int .i64 k1.X, .int .i64 k1.Y]), (7, .map 0 (encM k_api_Cell v_api_Cell x.1) false), (8, .arr 0 2 26 (cellsE e_api_Cell x.2.l) false)]⟩)
theorem t_comb_search_L0_ok {k0 : api_Region} {k1 : api_Cell} {k2 : api_Cell} {k3 : (A4 api_Cell)} {s : ((List (api_Cell × api_Cell)) × (FS api_Cell) × Int)} {r : ((List (api_Cell × api_Cell)) × (FS api_Cell))} (h : loopT (t_comb_search_L0 k0 k1 k2 k3) bigN s = some r) : LK env [] 0 [3, 5, 7, 8, 9, 55, 56] c48_L0 (some (t_comb_search_L0_st k0 k1 k2 k3 s)) = some (t_comb_search_L0_out k0 k1 k2 k3 r) := loop_walk (st := t_comb_search_L0_st k0 k1 k2 k3) (out := t_comb_search_L0_out k0 k1 k2 k3) (by
  clear h s r
  rintro ⟨s0, s1, s2⟩ x h
  simp only [t_comb_search_L0] at h
  by_cases c19 : (ilt s2 4) = true
  · rw [if_pos c19] at h
    by_cases h21 : inB s2 4 = true
    · rw [if_pos h21] at h
      have f20 := @idx_in 4 s2 h21 2 true [.int .i64 k3.a0.X, .int .i64 k3.a0.Y, .int .i64 k3.a1.X, .int .i64 k3.a1.Y, .int .i64 k3.a2.X, .int .i64 k3.a2.Y, .int .i64 k3.a3.X, .int .i64 k3.a3.Y]
      have f20b := @pack_A4 _ _ e_api_Cell _ k3 _ h21 [] [] (by decide) true
      simp only [A4.toL, cellsE, List.flatMap_cons, List.flatMap_nil, List.append_assoc, List.nil_append, List.cons_append, List.append_nil, List.length_cons, List.length_nil, Nat.zero_add, e_api_Cell] at f20b
      have f22 := look_encOk (ek := k_api_Cell) (ev := v_api_Cell) s0 (A4.get k3 s2) (⟨0, 0⟩ : api_Cell)
      simp only [k_api_Cell, v_api_Cell] at f22
      cases h24 : gOpt (bnot (mhas q_api_Cell s0 (A4.get k3 s2))) (t_region_Contains k0 (A4.get k3 s2)) with
      | none => (rw [h24] at h; cases h)
      | some v25 =>
        simp only [h24] at h
        have f23 := fun (q0 : (bnot (mhas q_api_Cell s0 (A4.get k3 s2))) = true) => t_region_Contains_ok (gOpt_getD false h24 q0)
        by_cases c26 : (band (bnot (mhas q_api_Cell s0 (A4.get k3 s2))) (v25.getD false)) = true
        · rw [if_pos c26] at h
          have f27 := fun (H : Heap) hg => set_enc (ek := k_api_Cell) (ev := v_api_Cell) (h := H) (g := 7) (ver := 0) (es := s0) hg (A4.get k3 s2) k2
          simp only [k_api_Cell, v_api_Cell] at f27
          by_cases h29 : fits 16 ((flen s1) + 1) = true
          · rw [if_pos h29] at h
            have f28 := fun g0 H y => @app_row1 _ _ e_api_Cell _ s1 (A4.get k3 s2) 16 h29 (by decide) g0 H 8 0 26 y
            simp only [e_api_Cell] at f28
            cases h
            show LK env [] 0 [3, 5, 7, 8, 9, 55, 56] c48_L0 (some (t_comb_search_L0_st _ _ _ _ _)) = LK env [] 0 [3, 5, 7, 8, 9, 55, 56] c48_L0 (some (t_comb_search_L0_st _ _ _ _ _))
            simp only [t_comb_search_L0_st]
            rw [LK_step]
            rcases tof (mhas q_api_Cell s0 (A4.get k3 s2)) with a30 | a30
            · simp [c19, a30] at c26
            · rcases tof (v25.getD false) with a31 | a31
              · simp (maxSteps := 4000000) [c19, a30, a31, f20, f20b, f22, esOf_map, f23, f27, f28, e_i64, e_sl_api_Row, e_sl_api_Run, e_api_Cell, e_api_Region, e_api_Row, e_api_Run, ↓c48_L0_u, ↓c48_L1_u, c48_0, c48_1, c48_2, c48_3, c48_4, c48_5, c48_6, c48_7, c48_8, c48_9, c48_10, c48_11, c48_12, c48_13, c48_14, c48_17]
              · simp [c19, a30, a31] at c26
          · rw [if_neg h29] at h; cases h
        · rw [if_neg c26] at h
          rw [Bool.not_eq_true] at c26
          cases h
          show LK env [] 0 [3, 5, 7, 8, 9, 55, 56] c48_L0 (some (t_comb_search_L0_st _ _ _ _ _)) = LK env [] 0 [3, 5, 7, 8, 9, 55, 56] c48_L0 (some (t_comb_search_L0_st _ _ _ _ _))
          simp only [t_comb_search_L0_st]
          rw [LK_step]
          rcases tof (mhas q_api_Cell s0 (A4.get k3 s2)) with a32 | a32
          · simp (maxSteps := 4000000) [c19, a32, f20, f20b, f22, esOf_map, f23, e_i64, e_sl_api_Row, e_sl_api_Run, e_api_Cell, e_api_Region, e_api_Row, e_api_Run, ↓c48_L0_u, ↓c48_L1_u, c48_0, c48_1, c48_2, c48_3, c48_4, c48_5, c48_6, c48_7, c48_8, c48_9, c48_10, c48_11, c48_12, c48_13, c48_14, c48_17]
          · rcases tof (v25.getD false) with a33 | a33
            · simp [c19, a32, a33] at c26
            · simp (maxSteps := 4000000) [c19, a32, a33, f20, f20b, f22, esOf_map, f23, e_i64, e_sl_api_Row, e_sl_api_Run, e_api_Cell, e_api_Region, e_api_Row, e_api_Run, ↓c48_L0_u, ↓c48_L1_u, c48_0, c48_1, c48_2, c48_3, c48_4, c48_5, c48_6, c48_7, c48_8, c48_9, c48_10, c48_11, c48_12, c48_13, c48_14, c48_17]
    · rw [if_neg h21] at h; cases h
  · rw [if_neg c19] at h
    rw [Bool.not_eq_true] at c19
    cases h
    show LK env [] 0 [3, 5, 7, 8, 9, 55, 56] c48_L0 (some (t_comb_search_L0_st _ _ _ _ _)) = some (t_comb_search_L0_out _ _ _ _ _)
    simp only [t_comb_search_L0_st, t_comb_search_L0_out]
    rw [LK_step]
    simp (maxSteps := 4000000) [c19, e_i64, e_sl_api_Row, e_sl_api_Run, e_api_Cell, e_api_Region, e_api_Row, e_api_Run, ↓c48_L0_u, ↓c48_L1_u, c48_0, c48_1, c48_2, c48_3, c48_4, c48_5, c48_6, c48_7, c48_8, c48_9, c48_10, c48_11, c48_12, c48_13, c48_14, c48_17]) bigN s r h
def t_comb_search_L1 (k0 : api_Region) (k1 : api_Cell) (s : ((List (api_Cell × api_Cell)) × (FS api_Cell))) : Option (LR ((List (api_Cell × api_Cell)) × (FS api_Cell)) (List (api_Cell × api_Cell))) := match s with
 | (s0, s1) => (if (igt (flen s1) 0) = true then (match fget s1 0 with
 | none => none
 | some v8 => (match fsl s1 1 (flen s1) with
 | none => none
 | some v15 => (if (band (ieq v8.X k1.X) (band (ieq v8.Y k1.Y) true)) = true then some (.dn s0)
 else (match loopT (t_comb_search_L0 k0 k1 v8 (⟨(⟨(iadd .i64 v8.X 1), v8.Y⟩ : api_Cell), (⟨(isub .i64 v8.X 1), v8.Y⟩ : api_Cell), (⟨v8.X, (iadd .i64 v8.Y 1)⟩ : api_Cell), (⟨v8.X, (isub .i64 v8.Y 1)⟩ : api_Cell)⟩ : (A4 api_Cell))) bigN (s0, v15, 0) with
 | none => none
 | some v29 => some (.nx (v29.1, v29.2))))))
 else some (.dn s0))
def t_comb_search_L1_st (k0 : api_Region) (k1 : api_Cell) (s : ((List (api_Cell × api_Cell)) × (FS api_Cell))) : St := match s with
 | (s0, s1) => ⟨fr [(3, .ptr 3 0 0), (5, .ptr 5 0 0), (7, .map 7 0), (8, .arr 8 0 0 s1.l.length)], hl [(3, .box 0 [encF e_api_Row k0.Rows]), (5, .box 0 [.int .i64 k1.X, .int .i64 k1.Y]), (7, .map 0 (encM k_api_Cell v_api_Cell s0) false), (8, .arr 0 2 26 (cellsE e_api_Cell s1.l) false)]⟩
def t_comb_search_L1_out (k0 : api_Region) (k1 : api_Cell) (x : (List (api_Cell × api_Cell))) : LE × St := (.exit 0, ⟨fr [(7, .map 7 0)], hl [(7, .map 0 (encM k_api_Cell v_api_Cell x) false)]⟩)
theorem t_comb_search_L1_ok {k0 : api_Region} {k1 : api_Cell} {s : ((List (api_Cell × api_Cell)) × (FS api_Cell))} {r : (List (api_Cell × api_Cell))} (h : loopT (t_comb_search_L1 k0 k1) bigN s = some r) : LK env [] 0 [3, 5, 7, 8] c48_L1 (some (t_comb_search_L1_st k0 k1 s)) = some (t_comb_search_L1_out k0 k1 r) := loop_walk (st := t_comb_search_L1_st k0 k1) (out := t_comb_search_L1_out k0 k1) (by
  clear h s r
  rintro ⟨s0, s1⟩ x h
  simp only [t_comb_search_L1] at h
  by_cases c4 : (igt (flen s1) 0) = true
  · rw [if_pos c4] at h
    cases h7 : fget s1 0 with
    | none => (rw [h7] at h; cases h)
    | some v8 =>
      simp only [h7] at h
      have f5 := iaddr_row (w := 2) h7
      have f6 := h7
      have f9 := (pack_row0 (e := e_api_Cell) f6 true 2 (by decide) (by decide))
      simp only [e_api_Cell] at f9
      cases h14 : fsl s1 1 (flen s1) with
      | none => (rw [h14] at h; cases h)
      | some v15 =>
        simp only [h14] at h
        have f12 := cut_part (e := e_api_Cell) h14
        try simp only [Int.reduceToNat, Nat.reduceMul, Nat.one_mul, Nat.mul_one] at f12
        have f13 := part_off h14 2
        try simp only [Int.reduceToNat, Nat.reduceMul, Nat.one_mul, Nat.mul_one] at f13
        have f10 := slice_rowlo (w := 2) h14
        try simp only [Int.reduceToNat, Nat.reduceMul, Nat.one_mul, Nat.mul_one] at f10
        have f11 := h14
        by_cases c16 : (band (ieq v8.X k1.X) (band (ieq v8.Y k1.Y) true)) = true
        · rw [if_pos c16] at h
          cases h
          show LK env [] 0 [3, 5, 7, 8] c48_L1 (some (t_comb_search_L1_st _ _ _)) = some (t_comb_search_L1_out _ _ _)
          simp only [t_comb_search_L1_st, t_comb_search_L1_out]
          rw [LK_step]
          rcases tof (ieq v8.X k1.X) with a17 | a17
          · rcases tof (ieq v8.Y k1.Y) with a18 | a18
            · simp (maxSteps := 4000000) [c4, a17, a18, f5, f9, f12, f13, f10, e_i64, e_sl_api_Row, e_sl_api_Run, e_api_Cell, e_api_Region, e_api_Row, e_api_Run, ↓c48_L0_u, ↓c48_L1_u, c48_0, c48_1, c48_2, c48_3, c48_4, c48_5, c48_6, c48_7, c48_8, c48_9, c48_10, c48_11, c48_12, c48_13, c48_14, c48_17]
            · simp [c4, a17, a18] at c16
          · simp [c4, a17] at c16
        · rw [if_neg c16] at h
          rw [Bool.not_eq_true] at c16
          cases h34 : loopT (t_comb_search_L0 k0 k1 v8 (⟨(⟨(iadd .i64 v8.X 1), v8.Y⟩ : api_Cell), (⟨(isub .i64 v8.X 1), v8.Y⟩ : api_Cell), (⟨v8.X, (iadd .i64 v8.Y 1)⟩ : api_Cell), (⟨v8.X, (isub .i64 v8.Y 1)⟩ : api_Cell)⟩ : (A4 api_Cell))) bigN (s0, v15, 0) with
          | none => (rw [h34] at h; cases h)
          | some v35 =>
            simp only [h34] at h
            have f36 := t_comb_search_L0_ok h34
            simp only [t_comb_search_L0_st, t_comb_search_L0_out] at f36
            try simp only [fcase_nil, fcase_lst, fcase_fsnoc, fcase_fapp, fcase_fset, fcase_frep, fcase_flit, fcase_flst] at f36
            cases h
            show LK env [] 0 [3, 5, 7, 8] c48_L1 (some (t_comb_search_L1_st _ _ _)) = LK env [] 0 [3, 5, 7, 8] c48_L1 (some (t_comb_search_L1_st _ _ _))
            simp only [t_comb_search_L1_st]
            rw [LK_step]
            rcases tof (ieq v8.X k1.X) with a37 | a37
            · rcases tof (ieq v8.Y k1.Y) with a38 | a38
              · simp [c4, a37, a38] at c16
              · try simp only [c4, a37, a38] at f36
                simp (maxSteps := 4000000) [c4, a37, a38, f5, f9, f12, f13, f10, f36, e_i64, e_sl_api_Row, e_sl_api_Run, e_api_Cell, e_api_Region, e_api_Row, e_api_Run, ↓c48_L0_u, ↓c48_L1_u, c48_0, c48_1, c48_2, c48_3, c48_4, c48_5, c48_6, c48_7, c48_8, c48_9, c48_10, c48_11, c48_12, c48_13, c48_14, c48_17]
            · try simp only [c4, a37] at f36
              simp (maxSteps := 4000000) [c4, a37, f5, f9, f12, f13, f10, f36, e_i64, e_sl_api_Row, e_sl_api_Run, e_api_Cell, e_api_Region, e_api_Row, e_api_Run, ↓c48_L0_u, ↓c48_L1_u, c48_0, c48_1, c48_2, c48_3, c48_4, c48_5, c48_6, c48_7, c48_8, c48_9, c48_10, c48_11, c48_12, c48_13, c48_14, c48_17]
  · rw [if_neg c4] at h
    rw [Bool.not_eq_true] at c4
    cases h
    show LK env [] 0 [3, 5, 7, 8] c48_L1 (some (t_comb_search_L1_st _ _ _)) = some (t_comb_search_L1_out _ _ _)
    simp only [t_comb_search_L1_st, t_comb_search_L1_out]
    rw [LK_step]
    simp (maxSteps := 4000000) [c4, e_i64, e_sl_api_Row, e_sl_api_Run, e_api_Cell, e_api_Region, e_api_Row, e_api_Run, ↓c48_L0_u, ↓c48_L1_u, c48_0, c48_1, c48_2, c48_3, c48_4, c48_5, c48_6, c48_7, c48_8, c48_9, c48_10, c48_11, c48_12, c48_13, c48_14, c48_17]) bigN s r h
def t_comb_search (p0 : api_Region) (p1 : api_Cell) (p2 : api_Cell) : Option (List (api_Cell × api_Cell)) := (match loopT (t_comb_search_L1 p0 p2) bigN ((mset q_api_Cell ([] : (List (api_Cell × api_Cell))) p1 p1), (flit ([p1] : List api_Cell))) with
 | none => none
 | some v32 => some v32)
theorem t_comb_search_ok {p0 : api_Region} {p1 : api_Cell} {p2 : api_Cell} {r : (List (api_Cell × api_Cell))} (h : t_comb_search p0 p1 p2 = some r) : FC env 48 [.agg [encF e_api_Row p0.Rows], .agg [.int .i64 p1.X, .int .i64 p1.Y], .agg [.int .i64 p2.X, .int .i64 p2.Y]] none = some (encMP k_api_Cell v_api_Cell r, fun _ => none) := by
  unfold t_comb_search at h
  have f1 := mkM_enc (ek := k_api_Cell) (ev := v_api_Cell)
  have f2 := fun (H : Heap) hg => set_enc (ek := k_api_Cell) (ev := v_api_Cell) (h := H) (g := 14) (ver := 0) (es := ([] : (List (api_Cell × api_Cell)))) hg p1 p1
  simp only [k_api_Cell, v_api_Cell] at f2
  have f3 : ∀ (H : Heap) (g0 : Nat), bslV H g0 1 2 26 (some [.int .i64 p1.X, .int .i64 p1.Y]) = some (.arr g0 (newVer H g0) 0 (flit ([p1] : List api_Cell)).l.length, upd H g0 (some (.arr (newVer H g0) 2 26 (cellsE e_api_Cell (flit ([p1] : List api_Cell)).l) false))) := fun H g0 => rfl
  cases h39 : loopT (t_comb_search_L1 p0 p2) bigN ((mset q_api_Cell ([] : (List (api_Cell × api_Cell))) p1 p1), (flit ([p1] : List api_Cell))) with
  | none => (rw [h39] at h; cases h)
  | some v40 =>
    simp only [h39] at h
    have f41 := t_comb_search_L1_ok h39
    simp only [t_comb_search_L1_st, t_comb_search_L1_out] at f41
    try simp only [fcase_nil, fcase_lst, fcase_fsnoc, fcase_fapp, fcase_fset, fcase_frep, fcase_flit, fcase_flst] at f41
    have f42 := fun (H : Heap) (g w : Nat) hg => snap_mapD (ek := k_api_Cell) (ev := v_api_Cell) (es := v40) (h := H) (g := g) (ver := w) hg
    cases h
    refine FC_pure (lf := lf48) rfl rfl rfl ?_
    simp only [lf48, lc48, c48_0, c48_1, c48_2, c48_3, c48_4, c48_5, c48_6, c48_7, c48_8, c48_9, c48_10, c48_11, c48_12, c48_13, c48_14, c48_17]
    simp (maxSteps := 4000000) [f1, f2, f3, -bslV_1, f41, e_i64, e_sl_api_Row, e_sl_api_Run, e_api_Cell, e_api_Region, e_api_Row, e_api_Run, ↓c48_L0_u, ↓c48_L1_u, f42]

/-! api.Cell] -/
theorem c49_L0_u (Γ : Env) (ps : List Nat) (σ : St) : EC Γ ps 0 c49_L0 σ = EC Γ ps 0 (.seq (.seq (.reg false c49_1) (.cond (.t 9) .skip (.seq (.trim []) (.exit 0)))) (.seq (.blk 1 (.reg true c49_2)) (.reg false c49_3))) σ := rfl
def t_slices_Reverse_api_Cell_api_Cell_L0  (s : ((FS api_Cell) × Int × Int)) : Option (LR ((FS api_Cell) × Int × Int) (FS api_Cell)) := match s with
 | (s0, s1, s2) => (if (ilt s1 s2) = true then (match fget s0 s2 with
 | none => none
 | some v5 => (match fget s0 s1 with
 | none => none
 | some v10 => (match fget (fset s0 s1 v5) s2 with
 | none => none
 | some v19 => some (.nx ((fset (fset s0 s1 v5) s2 v10), (iadd .i64 s1 1), (isub .i64 s2 1))))))
 else some (.dn s0))
def t_slices_Reverse_api_Cell_api_Cell_L0_st  (s : ((FS api_Cell) × Int × Int)) : St := match s with
 | (s0, s1, s2) => ⟨fr [(0, .arr 0 0 0 s0.l.length), (2, .int .i64 s1), (3, .int .i64 s2)], hl [(0, .arr 0 2 26 (cellsE e_api_Cell s0.l) false)]⟩
def t_slices_Reverse_api_Cell_api_Cell_L0_out  (x : (FS api_Cell)) : LE × St := (.exit 0, ⟨fr [], hl [(0, .arr 0 2 26 (cellsE e_api_Cell x.l) false)]⟩)
theorem t_slices_Reverse_api_Cell_api_Cell_L0_ok  {s : ((FS api_Cell) × Int × Int)} {r : (FS api_Cell)} (h : loopT (t_slices_Reverse_api_Cell_api_Cell_L0 ) bigN s = some r) : LK env [0] 0 [0, 2, 3] c49_L0 (some (t_slices_Reverse_api_Cell_api_Cell_L0_st  s)) = some (t_slices_Reverse_api_Cell_api_Cell_L0_out  r) := loop_walk (st := t_slices_Reverse_api_Cell_api_Cell_L0_st ) (out := t_slices_Reverse_api_Cell_api_Cell_L0_out ) (by
  clear h s r
  rintro ⟨s0, s1, s2⟩ x h
  simp only [t_slices_Reverse_api_Cell_api_Cell_L0] at h
  by_cases c1 : (ilt s1 s2) = true
  · rw [if_pos c1] at h
    cases h4 : fget s0 s2 with
    | none => (rw [h4] at h; cases h)
    | some v5 =>
      simp only [h4] at h
      have f2 := iaddr_row (w := 2) h4
      have f3 := h4
      have f6 := (pack_row0 (e := e_api_Cell) f3 true 2 (by decide) (by decide))
      simp only [e_api_Cell] at f6
      cases h9 : fget s0 s1 with
      | none => (rw [h9] at h; cases h)
      | some v10 =>
        simp only [h9] at h
        have f7 := iaddr_row (w := 2) h9
        have f8 := h9
        have f11 := (pack_row0 (e := e_api_Cell) f8 true 2 (by decide) (by decide))
        simp only [e_api_Cell] at f11
        have f14 := @paste_row0 _ _ e_api_Cell _ s0 s1 v10 v5 f8 [.int .i64 v5.X, .int .i64 v5.Y] (by simp) (by simp [e_api_Cell])
        have f15 := in_row0 (w := 2) f8 2 (by decide)
        try simp at f15
        cases h18 : fget (fset s0 s1 v5) s2 with
        | none => (rw [h18] at h; cases h)
        | some v19 =>
          simp only [h18] at h
          have f16 := iaddr_row (w := 2) h18
          try simp only [fset_len] at f16
          have f17 := h18
          have f20 := @paste_row0 _ _ e_api_Cell _ (fset s0 s1 v5) s2 v19 v10 f17 [.int .i64 v10.X, .int .i64 v10.Y] (by simp) (by simp [e_api_Cell])
          have f21 := in_row0 (w := 2) f17 2 (by decide)
          try simp at f21
          cases h
          show LK env [0] 0 [0, 2, 3] c49_L0 (some (t_slices_Reverse_api_Cell_api_Cell_L0_st  _)) = LK env [0] 0 [0, 2, 3] c49_L0 (some (t_slices_Reverse_api_Cell_api_Cell_L0_st  _))
          simp only [t_slices_Reverse_api_Cell_api_Cell_L0_st]
          rw [LK_step]
          simp (maxSteps := 4000000) [c1, f2, f6, f7, f11, f14, f15, f16, f20, f21, e_i64, e_sl_api_Row, e_sl_api_Run, e_api_Cell, e_api_Region, e_api_Row, e_api_Run, ↓c49_L0_u, c49_0, c49_1, c49_2, c49_3]
  · rw [if_neg c1] at h
    rw [Bool.not_eq_true] at c1
    cases h
    show LK env [0] 0 [0, 2, 3] c49_L0 (some (t_slices_Reverse_api_Cell_api_Cell_L0_st  _)) = some (t_slices_Reverse_api_Cell_api_Cell_L0_out  _)
    simp only [t_slices_Reverse_api_Cell_api_Cell_L0_st, t_slices_Reverse_api_Cell_api_Cell_L0_out]
    rw [LK_step]
    simp (maxSteps := 4000000) [c1, e_i64, e_sl_api_Row, e_sl_api_Run, e_api_Cell, e_api_Region, e_api_Row, e_api_Run, ↓c49_L0_u, c49_0, c49_1, c49_2, c49_3]) bigN s r h
def t_slices_Reverse_api_Cell_api_Cell (p0 : (FS api_Cell)) : Option (FS api_Cell) := (match loopT (t_slices_Reverse_api_Cell_api_Cell_L0) bigN (p0, 0, (isub .i64 (flen p0) 1)) with
 | none => none
 | some v23 => some v23)
theorem t_slices_Reverse_api_Cell_api_Cell_ok {p0 : (FS api_Cell)} {r : (FS api_Cell)} (h : t_slices_Reverse_api_Cell_api_Cell p0 = some r) : FC env 49 [.arr 0 0 0 p0.l.length] (some (hl [(0, .arr 0 2 26 (cellsE e_api_Cell p0.l) false)], 0)) = some (.tup [], hl [(0, .arr 0 2 26 (cellsE e_api_Cell r.l) false)]) := by
  unfold t_slices_Reverse_api_Cell_api_Cell at h
  cases h22 : loopT (t_slices_Reverse_api_Cell_api_Cell_L0) bigN (p0, 0, (isub .i64 (flen p0) 1)) with
  | none => (rw [h22] at h; cases h)
  | some v23 =>
    simp only [h22] at h
    have f24 := t_slices_Reverse_api_Cell_api_Cell_L0_ok h22
    simp only [t_slices_Reverse_api_Cell_api_Cell_L0_st, t_slices_Reverse_api_Cell_api_Cell_L0_out] at f24
    try simp only [fcase_nil, fcase_lst, fcase_fsnoc, fcase_fapp, fcase_fset, fcase_frep, fcase_flit, fcase_flst] at f24
    cases h
    refine FC_byref (lf := lf49) rfl rfl rfl ?_
    simp only [lf49, lc49, c49_0, c49_1, c49_2, c49_3]
    simp (maxSteps := 4000000) [f24, e_i64, e_sl_api_Row, e_sl_api_Run, e_api_Cell, e_api_Region, e_api_Row, e_api_Run, ↓c49_L0_u]

/-! comb.Path -/
theorem c18_L0_u (Γ : Env) (ps : List Nat) (σ : St) : EC Γ ps 0 c18_L0 σ = EC Γ ps 0 (.seq (.seq (.reg false c18_9) (.cond (.t 40) .skip (.seq (.trim [11]) (.exit 0)))) (.seq (.blk 1 (.seq (.reg false c18_10) (.reg false c18_11))) (.seq (.reg false c18_12) (.reg false c18_13)))) σ := rfl
def t_comb_Path_L0 (k0 : api_Cell) (k1 : (List (api_Cell × api_Cell))) (s : ((FS api_Cell) × api_Cell)) : Option (LR ((FS api_Cell) × api_Cell) (FS api_Cell)) := match s with
 | (s0, s1) => (if (bnot (band (ieq s1.X k0.X) (band (ieq s1.Y k0.Y) true))) = true then (if fits 16 ((flen s0) + 1) = true then some (.nx ((fsnoc s0 (mget q_api_Cell k1 s1 (⟨0, 0⟩ : api_Cell))), (mget q_api_Cell k1 s1 (⟨0, 0⟩ : api_Cell)))) else none)
 else some (.dn s0))
def t_comb_Path_L0_st (k0 : api_Cell) (k1 : (List (api_Cell × api_Cell))) (s : ((FS api_Cell) × api_Cell)) : St := match s with
 | (s0, s1) => ⟨fr [(4, .ptr 4 0 0), (8, encMP k_api_Cell v_api_Cell k1), (11, .arr 11 0 0 s0.l.length), (12, .ptr 12 0 0)], hl [(4, .box 0 [.int .i64 k0.X, .int .i64 k0.Y]), (11, .arr 0 2 26 (cellsE e_api_Cell s0.l) false), (12, .box 0 [.int .i64 s1.X, .int .i64 s1.Y])]⟩
def t_comb_Path_L0_out (k0 : api_Cell) (k1 : (List (api_Cell × api_Cell))) (x : (FS api_Cell)) : LE × St := (.exit 0, ⟨fr [(11, .arr 11 0 0 x.l.length)], hl [(11, .arr 0 2 26 (cellsE e_api_Cell x.l) false)]⟩)
theorem t_comb_Path_L0_ok {k0 : api_Cell} {k1 : (List (api_Cell × api_Cell))} {s : ((FS api_Cell) × api_Cell)} {r : (FS api_Cell)} (h : loopT (t_comb_Path_L0 k0 k1) bigN s = some r) : LK env [] 0 [4, 8, 11, 12] c18_L0 (some (t_comb_Path_L0_st k0 k1 s)) = some (t_comb_Path_L0_out k0 k1 r) := loop_walk (st := t_comb_Path_L0_st k0 k1) (out := t_comb_Path_L0_out k0 k1) (by
  clear h s r
  rintro ⟨s0, s1⟩ x h
  simp only [t_comb_Path_L0] at h
  by_cases c19 : (bnot (band (ieq s1.X k0.X) (band (ieq s1.Y k0.Y) true))) = true
  · rw [if_pos c19] at h
    have f20 := look_enc (ek := k_api_Cell) (ev := v_api_Cell) k1 s1 (⟨0, 0⟩ : api_Cell)
    simp only [k_api_Cell, v_api_Cell] at f20
    by_cases h22 : fits 16 ((flen s0) + 1) = true
    · rw [if_pos h22] at h
      have f21 := fun g0 H y => @app_row1 _ _ e_api_Cell _ s0 (mget q_api_Cell k1 s1 (⟨0, 0⟩ : api_Cell)) 16 h22 (by decide) g0 H 11 0 26 y
      simp only [e_api_Cell] at f21
      cases h
      show LK env [] 0 [4, 8, 11, 12] c18_L0 (some (t_comb_Path_L0_st _ _ _)) = LK env [] 0 [4, 8, 11, 12] c18_L0 (some (t_comb_Path_L0_st _ _ _))
      simp only [t_comb_Path_L0_st]
      rw [LK_step]
      rcases tof (ieq s1.X k0.X) with a23 | a23
      · rcases tof (ieq s1.Y k0.Y) with a24 | a24
        · simp [a23, a24] at c19
        · simp (maxSteps := 4000000) [a23, a24, f20, es_MP, f21, e_i64, e_sl_api_Row, e_sl_api_Run, e_api_Cell, e_api_Region, e_api_Row, e_api_Run, ↓c18_L0_u, c18_0, c18_1, c18_2, c18_3, c18_4, c18_5, c18_6, c18_7, c18_8, c18_9, c18_10, c18_11, c18_12, c18_13, c18_15, c18_16]
      · simp (maxSteps := 4000000) [a23, f20, es_MP, f21, e_i64, e_sl_api_Row, e_sl_api_Run, e_api_Cell, e_api_Region, e_api_Row, e_api_Run, ↓c18_L0_u, c18_0, c18_1, c18_2, c18_3, c18_4, c18_5, c18_6, c18_7, c18_8, c18_9, c18_10, c18_11, c18_12, c18_13, c18_15, c18_16]
    · rw [if_neg h22] at h; cases h
  · rw [if_neg c19] at h
    rw [Bool.not_eq_true] at c19
    cases h
    show LK env [] 0 [4, 8, 11, 12] c18_L0 (some (t_comb_Path_L0_st _ _ _)) = some (t_comb_Path_L0_out _ _ _)
    simp only [t_comb_Path_L0_st, t_comb_Path_L0_out]
    rw [LK_step]
    rcases tof (ieq s1.X k0.X) with a25 | a25
    · rcases tof (ieq s1.Y k0.Y) with a26 | a26
      · simp (maxSteps := 4000000) [a25, a26, e_i64, e_sl_api_Row, e_sl_api_Run, e_api_Cell, e_api_Region, e_api_Row, e_api_Run, ↓c18_L0_u, c18_0, c18_1, c18_2, c18_3, c18_4, c18_5, c18_6, c18_7, c18_8, c18_9, c18_10, c18_11, c18_12, c18_13, c18_15, c18_16]
      · simp [a25, a26] at c19
    · simp [a25] at c19) bigN s r h
def t_comb_Path (p0 : api_Region) (p1 : api_Cell) (p2 : api_Cell) : Option ((FS api_Cell) × Bool) := (match t_region_Contains p0 p1 with
 | none => none
 | some v3 => (match gOpt (bnot (bnot v3)) (t_region_Contains p0 p2) with
 | none => none
 | some v6 => (if (bor (bnot v3) (bnot (v6.getD false))) = true then some ((FS.nil : (FS api_Cell)), false)
 else (match t_comb_search p0 p1 p2 with
 | none => none
 | some v10 => (if (bnot (mhas q_api_Cell v10 p2)) = true then some ((FS.nil : (FS api_Cell)), false)
 else (match loopT (t_comb_Path_L0 p1 v10) bigN ((flit ([p2] : List api_Cell)), p2) with
 | none => none
 | some v19 => (match t_slices_Reverse_api_Cell_api_Cell v19 with
 | none => none
 | some v22 => (if ieq (flen v22) (flen v19) = true then some ((flst v22), true) else none))))))))
theorem t_comb_Path_ok {p0 : api_Region} {p1 : api_Cell} {p2 : api_Cell} {r : ((FS api_Cell) × Bool)} (h : t_comb_Path p0 p1 p2 = some r) : FC env 18 [.agg [encF e_api_Row p0.Rows], .agg [.int .i64 p1.X, .int .i64 p1.Y], .agg [.int .i64 p2.X, .int .i64 p2.Y]] none = some (.tup [encF e_api_Cell r.1, .bool r.2], fun _ => none) := by
  unfold t_comb_Path at h
  cases h2 : t_region_Contains p0 p1 with
  | none => (rw [h2] at h; cases h)
  | some v3 =>
    simp only [h2] at h
    have f1 := t_region_Contains_ok h2
    cases h5 : gOpt (bnot (bnot v3)) (t_region_Contains p0 p2) with
    | none => (rw [h5] at h; cases h)
    | some v6 =>
      simp only [h5] at h
      have f4 := fun (q0 : (bnot v3) = false) => t_region_Contains_ok (gOpt_getD false h5 (bnot_mk q0))
      by_cases c7 : (bor (bnot v3) (bnot (v6.getD false))) = true
      · rw [if_pos c7] at h
        cases h
        refine FC_pure (lf := lf18) rfl rfl rfl ?_
        simp only [lf18, lc18, c18_0, c18_1, c18_2, c18_3, c18_4, c18_5, c18_6, c18_7, c18_8, c18_9, c18_10, c18_11, c18_12, c18_13, c18_15, c18_16]
        rcases tof v3 with a8 | a8
        · rcases tof (v6.getD false) with a9 | a9
          · simp [a8, a9] at c7
          · simp (maxSteps := 4000000) [a8, a9, f1, f4, e_i64, e_sl_api_Row, e_sl_api_Run, e_api_Cell, e_api_Region, e_api_Row, e_api_Run, ↓c18_L0_u, snap_tupE, tupS, snap7_int, snap7_bool, snap7_str, snap7_nils, snap7_agg]
        · simp (maxSteps := 4000000) [a8, f1, f4, e_i64, e_sl_api_Row, e_sl_api_Run, e_api_Cell, e_api_Region, e_api_Row, e_api_Run, ↓c18_L0_u, snap_tupE, tupS, snap7_int, snap7_bool, snap7_str, snap7_nils, snap7_agg]
      · rw [if_neg c7] at h
        rw [Bool.not_eq_true] at c7
        cases h11 : t_comb_search p0 p1 p2 with
        | none => (rw [h11] at h; cases h)
        | some v12 =>
          simp only [h11] at h
          have f10 := t_comb_search_ok h11
          have f13 := look_encOk (ek := k_api_Cell) (ev := v_api_Cell) v12 p2 (⟨0, 0⟩ : api_Cell)
          simp only [k_api_Cell, v_api_Cell] at f13
          by_cases c14 : (bnot (mhas q_api_Cell v12 p2)) = true
          · rw [if_pos c14] at h
            cases h
            refine FC_pure (lf := lf18) rfl rfl rfl ?_
            simp only [lf18, lc18, c18_0, c18_1, c18_2, c18_3, c18_4, c18_5, c18_6, c18_7, c18_8, c18_9, c18_10, c18_11, c18_12, c18_13, c18_15, c18_16]
            rcases tof v3 with a15 | a15
            · rcases tof (v6.getD false) with a16 | a16
              · rcases tof (mhas q_api_Cell v12 p2) with a17 | a17
                · simp [a15, a16, a17] at c14
                · simp (maxSteps := 4000000) [a15, a16, a17, f1, f4, f10, f13, es_MP, e_i64, e_sl_api_Row, e_sl_api_Run, e_api_Cell, e_api_Region, e_api_Row, e_api_Run, ↓c18_L0_u, snap_tupE, tupS, snap7_int, snap7_bool, snap7_str, snap7_nils, snap7_agg]
              · simp [a15, a16] at c7
            · simp [a15] at c7
          · rw [if_neg c14] at h
            rw [Bool.not_eq_true] at c14
            have f18 : ∀ (H : Heap) (g0 : Nat), bslV H g0 1 2 26 (some [.int .i64 p2.X, .int .i64 p2.Y]) = some (.arr g0 (newVer H g0) 0 (flit ([p2] : List api_Cell)).l.length, upd H g0 (some (.arr (newVer H g0) 2 26 (cellsE e_api_Cell (flit ([p2] : List api_Cell)).l) false))) := fun H g0 => rfl
            cases h27 : loopT (t_comb_Path_L0 p1 v12) bigN ((flit ([p2] : List api_Cell)), p2) with
            | none => (rw [h27] at h; cases h)
            | some v28 =>
              simp only [h27] at h
              have f29 := t_comb_Path_L0_ok h27
              simp only [t_comb_Path_L0_st, t_comb_Path_L0_out] at f29
              try simp only [fcase_nil, fcase_lst, fcase_fsnoc, fcase_fapp, fcase_fset, fcase_frep, fcase_flit, fcase_flst] at f29
              cases h30 : t_slices_Reverse_api_Cell_api_Cell v28 with
              | none => (rw [h30] at h; cases h)
              | some v31 =>
                simp only [h30] at h
                have f32 := t_slices_Reverse_api_Cell_api_Cell_ok h30
                try simp only [encF_nil, fcase_nil, fcase_lst, fcase_fsnoc, fcase_fapp, fcase_fset, fcase_frep, fcase_flit, fcase_flst] at f32
                by_cases h33 : ieq (flen v31) (flen v28) = true
                · rw [if_pos h33] at h
                  have h34 : v28.l.length = v31.l.length := len_of h33
                  try simp only [h34] at f1 f4 f10 f13 f18 f29 f32
                  try simp only [fcase_nil, fcase_lst, fcase_fsnoc, fcase_fapp, fcase_fset, fcase_frep, fcase_flit, fcase_flst] at f32
                  cases h
                  refine FC_pure (lf := lf18) rfl rfl rfl ?_
                  simp only [lf18, lc18, c18_0, c18_1, c18_2, c18_3, c18_4, c18_5, c18_6, c18_7, c18_8, c18_9, c18_10, c18_11, c18_12, c18_13, c18_15, c18_16]
                  rcases tof v3 with a35 | a35
                  · rcases tof (v6.getD false) with a36 | a36
                    · rcases tof (mhas q_api_Cell v12 p2) with a37 | a37
                      · try simp only [a35, a36, a37] at f29
                        simp (maxSteps := 4000000) [a35, a36, a37, f1, f4, f10, f13, es_MP, f18, -bslV_1, f29, h34, f32, e_i64, e_sl_api_Row, e_sl_api_Run, e_api_Cell, e_api_Region, e_api_Row, e_api_Run, ↓c18_L0_u, snap_row7 (e := e_api_Cell) (el := 26) (fz := false), snap_tupE, tupS, snap7_int, snap7_bool, snap7_str, snap7_nils, snap7_agg]
                      · simp [a35, a36, a37] at c14
                    · simp [a35, a36] at c7
                  · simp [a35] at c7
                · rw [if_neg h33] at h; cases h

/-! additiveref18.Row -/
theorem c56_L0_u (Γ : Env) (ps : List Nat) (σ : St) : EC Γ ps 0 c56_L0 σ = EC Γ ps 0 (.seq (.seq (.reg false c56_2) (.cond (.t 10) .skip (.seq (.trim []) (.exit 0)))) (.seq (.blk 1 (.seq (.reg false c56_3) (.cond (.t 20) (.seq (.reg false c56_4) (.seq (.trim [4]) .ret)) .skip))) (.reg false c56_5))) σ := rfl
def t_additiveref18_Row_L0 (k0 : Int) (k1 : api_Region) (s : Int) : Option (LR Int ((FS api_Run) ⊕ Unit)) := match s with
 | s0 => (if (ilt s0 (flen k1.Rows)) = true then (match fget k1.Rows s0 with
 | none => none
 | some v4 => (if (ieq v4.Y k0) = true then some (.dn (.inl v4.Runs))
 else some (.nx (iadd .i64 s0 1))))
 else some (.dn (.inr ())))
def t_additiveref18_Row_L0_st (k0 : Int) (k1 : api_Region) (s : Int) : St := match s with
 | s0 => ⟨fr [(1, .int .i64 k0), (2, .ptr 2 0 0), (5, .int .i64 s0)], hl [(2, .box 0 [encF e_api_Row k1.Rows])]⟩
def t_additiveref18_Row_L0_out (k0 : Int) (k1 : api_Region) (x : ((FS api_Run) ⊕ Unit)) : LE × St := match x with
 | .inl x => (.ret, ⟨fr [(4, encF e_api_Run x)], hl []⟩)
 | .inr x => (.exit 0, ⟨fr [], hl []⟩)
theorem t_additiveref18_Row_L0_ok {k0 : Int} {k1 : api_Region} {s : Int} {r : ((FS api_Run) ⊕ Unit)} (h : loopT (t_additiveref18_Row_L0 k0 k1) bigN s = some r) : LK env [] 0 [1, 2, 5] c56_L0 (some (t_additiveref18_Row_L0_st k0 k1 s)) = some (t_additiveref18_Row_L0_out k0 k1 r) := loop_walk (st := t_additiveref18_Row_L0_st k0 k1) (out := t_additiveref18_Row_L0_out k0 k1) (by
  clear h s r
  rintro s0 x h
  simp only [t_additiveref18_Row_L0] at h
  by_cases c1 : (ilt s0 (flen k1.Rows)) = true
  · rw [if_pos c1] at h
    cases h3 : fget k1.Rows s0 with
    | none => (rw [h3] at h; cases h)
    | some v4 =>
      simp only [h3] at h
      have f2 := iaddr_F (e := e_api_Row) h3
      by_cases c5 : (ieq v4.Y k0) = true
      · rw [if_pos c5] at h
        cases h
        show LK env [] 0 [1, 2, 5] c56_L0 (some (t_additiveref18_Row_L0_st _ _ _)) = some (t_additiveref18_Row_L0_out _ _ _)
        simp only [t_additiveref18_Row_L0_st, t_additiveref18_Row_L0_out]
        rw [LK_step]
        simp (maxSteps := 4000000) [c1, c5, f2, e_i64, e_sl_api_Row, e_sl_api_Run, e_api_Cell, e_api_Region, e_api_Row, e_api_Run, ↓c56_L0_u, c56_0, c56_1, c56_2, c56_3, c56_4, c56_5, c56_7]
      · rw [if_neg c5] at h
        rw [Bool.not_eq_true] at c5
        cases h
        show LK env [] 0 [1, 2, 5] c56_L0 (some (t_additiveref18_Row_L0_st _ _ _)) = LK env [] 0 [1, 2, 5] c56_L0 (some (t_additiveref18_Row_L0_st _ _ _))
        simp only [t_additiveref18_Row_L0_st]
        rw [LK_step]
        simp (maxSteps := 4000000) [c1, c5, f2, e_i64, e_sl_api_Row, e_sl_api_Run, e_api_Cell, e_api_Region, e_api_Row, e_api_Run, ↓c56_L0_u, c56_0, c56_1, c56_2, c56_3, c56_4, c56_5, c56_7]
  · rw [if_neg c1] at h
    rw [Bool.not_eq_true] at c1
    cases h
    show LK env [] 0 [1, 2, 5] c56_L0 (some (t_additiveref18_Row_L0_st _ _ _)) = some (t_additiveref18_Row_L0_out _ _ _)
    simp only [t_additiveref18_Row_L0_st, t_additiveref18_Row_L0_out]
    rw [LK_step]
    simp (maxSteps := 4000000) [c1, e_i64, e_sl_api_Row, e_sl_api_Run, e_api_Cell, e_api_Region, e_api_Row, e_api_Run, ↓c56_L0_u, c56_0, c56_1, c56_2, c56_3, c56_4, c56_5, c56_7]) bigN s r h
def t_additiveref18_Row (p0 : api_Region) (p1 : Int) : Option (FS api_Run) := (match loopT (t_additiveref18_Row_L0 p1 p0) bigN 0 with
 | none => none
 | some v8 => (match v8 with
 | .inl v8x => some v8x
 | .inr v8x => some (FS.nil : (FS api_Run))))
theorem t_additiveref18_Row_ok {p0 : api_Region} {p1 : Int} {r : (FS api_Run)} (h : t_additiveref18_Row p0 p1 = some r) : FC env 56 [.agg [encF e_api_Row p0.Rows], .int .i64 p1] none = some (encF e_api_Run r, fun _ => none) := by
  unfold t_additiveref18_Row at h
  cases h7 : loopT (t_additiveref18_Row_L0 p1 p0) bigN 0 with
  | none => (rw [h7] at h; cases h)
  | some v8 =>
    simp only [h7] at h
    have f9 := t_additiveref18_Row_L0_ok h7
    cases v8 with
    | inl v8x =>
      try simp only at h
      simp only [t_additiveref18_Row_L0_st, t_additiveref18_Row_L0_out] at f9
      try simp only [fcase_nil, fcase_lst, fcase_fsnoc, fcase_fapp, fcase_fset, fcase_frep, fcase_flit, fcase_flst] at f9
      cases h
      refine FC_pure (lf := lf56) rfl rfl rfl ?_
      simp only [lf56, lc56, c56_0, c56_1, c56_2, c56_3, c56_4, c56_5, c56_7]
      simp (maxSteps := 4000000) [f9, e_i64, e_sl_api_Row, e_sl_api_Run, e_api_Cell, e_api_Region, e_api_Row, e_api_Run, ↓c56_L0_u]
    | inr v8x =>
      try simp only at h
      simp only [t_additiveref18_Row_L0_st, t_additiveref18_Row_L0_out] at f9
      try simp only [fcase_nil, fcase_lst, fcase_fsnoc, fcase_fapp, fcase_fset, fcase_frep, fcase_flit, fcase_flst] at f9
      cases h
      refine FC_pure (lf := lf56) rfl rfl rfl ?_
      simp only [lf56, lc56, c56_0, c56_1, c56_2, c56_3, c56_4, c56_5, c56_7]
      simp (maxSteps := 4000000) [f9, e_i64, e_sl_api_Row, e_sl_api_Run, e_api_Cell, e_api_Region, e_api_Row, e_api_Run, ↓c56_L0_u]

/-! additiveref18.inside -/
theorem c55_L0_u (Γ : Env) (ps : List Nat) (σ : St) : EC Γ ps 0 c55_L0 σ = EC Γ ps 0 (.seq (.seq (.reg false c55_2) (.cond (.t 9) .skip (.seq (.trim []) (.exit 0)))) (.seq (.blk 1 (.seq (.reg false c55_3) (.cond (.t 27) (.seq (.reg false c55_4) (.seq (.trim [4]) .ret)) .skip))) (.reg false c55_5))) σ := rfl
def t_additiveref18_inside_L0 (k0 : (FS api_Run)) (k1 : Int) (s : Int) : Option (LR Int (Bool ⊕ Unit)) := match s with
 | s0 => (if (ilt s0 (flen k0)) = true then (match fget k0 s0 with
 | none => none
 | some v4 => (if (band (ile v4.From k1) (ilt k1 v4.To)) = true then some (.dn (.inl true))
 else some (.nx (iadd .i64 s0 1))))
 else some (.dn (.inr ())))
def t_additiveref18_inside_L0_st (k0 : (FS api_Run)) (k1 : Int) (s : Int) : St := match s with
 | s0 => ⟨fr [(0, encF e_api_Run k0), (1, .int .i64 k1), (5, .int .i64 s0)], hl []⟩
def t_additiveref18_inside_L0_out (k0 : (FS api_Run)) (k1 : Int) (x : (Bool ⊕ Unit)) : LE × St := match x with
 | .inl x => (.ret, ⟨fr [(4, .bool x)], hl []⟩)
 | .inr x => (.exit 0, ⟨fr [], hl []⟩)
theorem t_additiveref18_inside_L0_ok {k0 : (FS api_Run)} {k1 : Int} {s : Int} {r : (Bool ⊕ Unit)} (h : loopT (t_additiveref18_inside_L0 k0 k1) bigN s = some r) : LK env [] 0 [0, 1, 5] c55_L0 (some (t_additiveref18_inside_L0_st k0 k1 s)) = some (t_additiveref18_inside_L0_out k0 k1 r) := loop_walk (st := t_additiveref18_inside_L0_st k0 k1) (out := t_additiveref18_inside_L0_out k0 k1) (by
  clear h s r
  rintro s0 x h
  simp only [t_additiveref18_inside_L0] at h
  by_cases c1 : (ilt s0 (flen k0)) = true
  · rw [if_pos c1] at h
    cases h3 : fget k0 s0 with
    | none => (rw [h3] at h; cases h)
    | some v4 =>
      simp only [h3] at h
      have f2 := iaddr_F (e := e_api_Run) h3
      by_cases c6 : (band (ile v4.From k1) (ilt k1 v4.To)) = true
      · rw [if_pos c6] at h
        cases h
        show LK env [] 0 [0, 1, 5] c55_L0 (some (t_additiveref18_inside_L0_st _ _ _)) = some (t_additiveref18_inside_L0_out _ _ _)
        simp only [t_additiveref18_inside_L0_st, t_additiveref18_inside_L0_out]
        rw [LK_step]
        rcases tof (ile v4.From k1) with a7 | a7
        · rcases tof (ilt k1 v4.To) with a8 | a8
          · simp (maxSteps := 4000000) [c1, a7, a8, f2, e_i64, e_sl_api_Row, e_sl_api_Run, e_api_Cell, e_api_Region, e_api_Row, e_api_Run, ↓c55_L0_u, c55_0, c55_1, c55_2, c55_3, c55_4, c55_5, c55_7]
          · simp [c1, a7, a8] at c6
        · simp [c1, a7] at c6
      · rw [if_neg c6] at h
        rw [Bool.not_eq_true] at c6
        cases h
        show LK env [] 0 [0, 1, 5] c55_L0 (some (t_additiveref18_inside_L0_st _ _ _)) = LK env [] 0 [0, 1, 5] c55_L0 (some (t_additiveref18_inside_L0_st _ _ _))
        simp only [t_additiveref18_inside_L0_st]
        rw [LK_step]
        rcases tof (ile v4.From k1) with a9 | a9
        · rcases tof (ilt k1 v4.To) with a10 | a10
          · simp [c1, a9, a10] at c6
          · simp (maxSteps := 4000000) [c1, a9, a10, f2, e_i64, e_sl_api_Row, e_sl_api_Run, e_api_Cell, e_api_Region, e_api_Row, e_api_Run, ↓c55_L0_u, c55_0, c55_1, c55_2, c55_3, c55_4, c55_5, c55_7]
        · simp (maxSteps := 4000000) [c1, a9, f2, e_i64, e_sl_api_Row, e_sl_api_Run, e_api_Cell, e_api_Region, e_api_Row, e_api_Run, ↓c55_L0_u, c55_0, c55_1, c55_2, c55_3, c55_4, c55_5, c55_7]
  · rw [if_neg c1] at h
    rw [Bool.not_eq_true] at c1
    cases h
    show LK env [] 0 [0, 1, 5] c55_L0 (some (t_additiveref18_inside_L0_st _ _ _)) = some (t_additiveref18_inside_L0_out _ _ _)
    simp only [t_additiveref18_inside_L0_st, t_additiveref18_inside_L0_out]
    rw [LK_step]
    simp (maxSteps := 4000000) [c1, e_i64, e_sl_api_Row, e_sl_api_Run, e_api_Cell, e_api_Region, e_api_Row, e_api_Run, ↓c55_L0_u, c55_0, c55_1, c55_2, c55_3, c55_4, c55_5, c55_7]) bigN s r h
def t_additiveref18_inside (p0 : (FS api_Run)) (p1 : Int) : Option Bool := (match loopT (t_additiveref18_inside_L0 p0 p1) bigN 0 with
 | none => none
 | some v8 => (match v8 with
 | .inl v8x => some v8x
 | .inr v8x => some false))
theorem t_additiveref18_inside_ok {p0 : (FS api_Run)} {p1 : Int} {r : Bool} (h : t_additiveref18_inside p0 p1 = some r) : FC env 55 [encF e_api_Run p0, .int .i64 p1] none = some (.bool r, fun _ => none) := by
  unfold t_additiveref18_inside at h
  cases h11 : loopT (t_additiveref18_inside_L0 p0 p1) bigN 0 with
  | none => (rw [h11] at h; cases h)
  | some v12 =>
    simp only [h11] at h
    have f13 := t_additiveref18_inside_L0_ok h11
    cases v12 with
    | inl v12x =>
      try simp only at h
      simp only [t_additiveref18_inside_L0_st, t_additiveref18_inside_L0_out] at f13
      try simp only [fcase_nil, fcase_lst, fcase_fsnoc, fcase_fapp, fcase_fset, fcase_frep, fcase_flit, fcase_flst] at f13
      cases h
      refine FC_pure (lf := lf55) rfl rfl rfl ?_
      simp only [lf55, lc55, c55_0, c55_1, c55_2, c55_3, c55_4, c55_5, c55_7]
      simp (maxSteps := 4000000) [f13, e_i64, e_sl_api_Row, e_sl_api_Run, e_api_Cell, e_api_Region, e_api_Row, e_api_Run, ↓c55_L0_u]
    | inr v12x =>
      try simp only at h
      simp only [t_additiveref18_inside_L0_st, t_additiveref18_inside_L0_out] at f13
      try simp only [fcase_nil, fcase_lst, fcase_fsnoc, fcase_fapp, fcase_fset, fcase_frep, fcase_flit, fcase_flst] at f13
      cases h
      refine FC_pure (lf := lf55) rfl rfl rfl ?_
      simp only [lf55, lc55, c55_0, c55_1, c55_2, c55_3, c55_4, c55_5, c55_7]
      simp (maxSteps := 4000000) [f13, e_i64, e_sl_api_Row, e_sl_api_Run, e_api_Cell, e_api_Region, e_api_Row, e_api_Run, ↓c55_L0_u]

/-! additiveref18.Contains -/
def t_additiveref18_Contains (p0 : api_Region) (p1 : api_Cell) : Option Bool := (match t_additiveref18_Valid p0 with
 | none => none
 | some v3 => (match gOpt v3 (t_additiveref18_Row p0 p1.Y) with
 | none => none
 | some v6 => (match gOpt v3 (t_additiveref18_inside (v6.getD (FS.nil : (FS api_Run))) p1.X) with
 | none => none
 | some v9 => some (band v3 (v9.getD false)))))
theorem t_additiveref18_Contains_ok {p0 : api_Region} {p1 : api_Cell} {r : Bool} (h : t_additiveref18_Contains p0 p1 = some r) : FC env 27 [.agg [encF e_api_Row p0.Rows], .agg [.int .i64 p1.X, .int .i64 p1.Y]] none = some (.bool r, fun _ => none) := by
  unfold t_additiveref18_Contains at h
  cases h2 : t_additiveref18_Valid p0 with
  | none => (rw [h2] at h; cases h)
  | some v3 =>
    simp only [h2] at h
    have f1 := t_additiveref18_Valid_ok h2
    cases h5 : gOpt v3 (t_additiveref18_Row p0 p1.Y) with
    | none => (rw [h5] at h; cases h)
    | some v6 =>
      simp only [h5] at h
      have f4 := fun (q0 : v3 = true) => t_additiveref18_Row_ok (gOpt_getD (FS.nil : (FS api_Run)) h5 q0)
      cases h8 : gOpt v3 (t_additiveref18_inside (v6.getD (FS.nil : (FS api_Run))) p1.X) with
      | none => (rw [h8] at h; cases h)
      | some v9 =>
        simp only [h8] at h
        have f7 := fun (q0 : v3 = true) => t_additiveref18_inside_ok (gOpt_getD false h8 q0)
        cases h
        refine FC_pure (lf := lf27) rfl rfl rfl ?_
        simp only [lf27, lc27, c27_0, c27_1]
        rcases tof v3 with a10 | a10
        · simp (maxSteps := 4000000) [a10, f1, f4, f7, e_i64, e_sl_api_Row, e_sl_api_Run, e_api_Cell, e_api_Region, e_api_Row, e_api_Run]
        · simp (maxSteps := 4000000) [a10, f1, f4, f7, e_i64, e_sl_api_Row, e_sl_api_Run, e_api_Cell, e_api_Region, e_api_Row, e_api_Run]

/-! additiveref34.found -/
theorem c87_L0_u (Γ : Env) (ps : List Nat) (σ : St) : EC Γ ps 0 c87_L0 σ = EC Γ ps 0 (.seq (.seq (.reg false c87_2) (.cond (.t 9) .skip (.seq (.trim []) (.exit 0)))) (.seq (.blk 1 (.seq (.reg true c87_3) (.cond (.t 18) (.seq (.reg false c87_4) (.seq (.trim [4]) .ret)) .skip))) (.reg false c87_5))) σ := rfl
def t_additiveref34_found_L0 (k0 : (FS additiveref34_seen)) (k1 : api_Cell) (s : Int) : Option (LR Int (Bool ⊕ Unit)) := match s with
 | s0 => (if (ilt s0 (flen k0)) = true then (match fget k0 s0 with
 | none => none
 | some v4 => (if (band (ieq v4.cell.X k1.X) (band (ieq v4.cell.Y k1.Y) true)) = true then some (.dn (.inl true))
 else some (.nx (iadd .i64 s0 1))))
 else some (.dn (.inr ())))
def t_additiveref34_found_L0_st (k0 : (FS additiveref34_seen)) (k1 : api_Cell) (s : Int) : St := match s with
 | s0 => ⟨fr [(0, encF e_additiveref34_seen k0), (3, .ptr 3 0 0), (5, .int .i64 s0)], hl [(3, .box 0 [.int .i64 k1.X, .int .i64 k1.Y])]⟩
def t_additiveref34_found_L0_out (k0 : (FS additiveref34_seen)) (k1 : api_Cell) (x : (Bool ⊕ Unit)) : LE × St := match x with
 | .inl x => (.ret, ⟨fr [(4, .bool x)], hl []⟩)
 | .inr x => (.exit 0, ⟨fr [], hl []⟩)
theorem t_additiveref34_found_L0_ok {k0 : (FS additiveref34_seen)} {k1 : api_Cell} {s : Int} {r : (Bool ⊕ Unit)} (h : loopT (t_additiveref34_found_L0 k0 k1) bigN s = some r) : LK env [] 0 [0, 3, 5] c87_L0 (some (t_additiveref34_found_L0_st k0 k1 s)) = some (t_additiveref34_found_L0_out k0 k1 r) := loop_walk (st := t_additiveref34_found_L0_st k0 k1) (out := t_additiveref34_found_L0_out k0 k1) (by
  clear h s r
  rintro s0 x h
  simp only [t_additiveref34_found_L0] at h
  by_cases c1 : (ilt s0 (flen k0)) = true
  · rw [if_pos c1] at h
    cases h3 : fget k0 s0 with
    | none => (rw [h3] at h; cases h)
    | some v4 =>
      simp only [h3] at h
      have f2 := iaddr_F (e := e_additiveref34_seen) h3
      by_cases c5 : (band (ieq v4.cell.X k1.X) (band (ieq v4.cell.Y k1.Y) true)) = true
      · rw [if_pos c5] at h
        cases h
        show LK env [] 0 [0, 3, 5] c87_L0 (some (t_additiveref34_found_L0_st _ _ _)) = some (t_additiveref34_found_L0_out _ _ _)
        simp only [t_additiveref34_found_L0_st, t_additiveref34_found_L0_out]
        rw [LK_step]
        rcases tof (ieq v4.cell.X k1.X) with a6 | a6
        · rcases tof (ieq v4.cell.Y k1.Y) with a7 | a7
          · simp (maxSteps := 4000000) [c1, a6, a7, f2, e_i64, e_sl_api_Row, e_sl_api_Run, e_additiveref34_seen, e_api_Cell, e_api_Region, e_api_Row, e_api_Run, ↓c87_L0_u, c87_0, c87_1, c87_2, c87_3, c87_4, c87_5, c87_7]
          · simp [c1, a6, a7] at c5
        · simp [c1, a6] at c5
      · rw [if_neg c5] at h
        rw [Bool.not_eq_true] at c5
        cases h
        show LK env [] 0 [0, 3, 5] c87_L0 (some (t_additiveref34_found_L0_st _ _ _)) = LK env [] 0 [0, 3, 5] c87_L0 (some (t_additiveref34_found_L0_st _ _ _))
        simp only [t_additiveref34_found_L0_st]
        rw [LK_step]
        rcases tof (ieq v4.cell.X k1.X) with a8 | a8
        · rcases tof (ieq v4.cell.Y k1.Y) with a9 | a9
          · simp [c1, a8, a9] at c5
          · simp (maxSteps := 4000000) [c1, a8, a9, f2, e_i64, e_sl_api_Row, e_sl_api_Run, e_additiveref34_seen, e_api_Cell, e_api_Region, e_api_Row, e_api_Run, ↓c87_L0_u, c87_0, c87_1, c87_2, c87_3, c87_4, c87_5, c87_7]
        · simp (maxSteps := 4000000) [c1, a8, f2, e_i64, e_sl_api_Row, e_sl_api_Run, e_additiveref34_seen, e_api_Cell, e_api_Region, e_api_Row, e_api_Run, ↓c87_L0_u, c87_0, c87_1, c87_2, c87_3, c87_4, c87_5, c87_7]
  · rw [if_neg c1] at h
    rw [Bool.not_eq_true] at c1
    cases h
    show LK env [] 0 [0, 3, 5] c87_L0 (some (t_additiveref34_found_L0_st _ _ _)) = some (t_additiveref34_found_L0_out _ _ _)
    simp only [t_additiveref34_found_L0_st, t_additiveref34_found_L0_out]
    rw [LK_step]
    simp (maxSteps := 4000000) [c1, e_i64, e_sl_api_Row, e_sl_api_Run, e_additiveref34_seen, e_api_Cell, e_api_Region, e_api_Row, e_api_Run, ↓c87_L0_u, c87_0, c87_1, c87_2, c87_3, c87_4, c87_5, c87_7]) bigN s r h
def t_additiveref34_found (p0 : (FS additiveref34_seen)) (p1 : api_Cell) : Option Bool := (match loopT (t_additiveref34_found_L0 p0 p1) bigN 0 with
 | none => none
 | some v7 => (match v7 with
 | .inl v7x => some v7x
 | .inr v7x => some false))
theorem t_additiveref34_found_ok {p0 : (FS additiveref34_seen)} {p1 : api_Cell} {r : Bool} (h : t_additiveref34_found p0 p1 = some r) : FC env 87 [encF e_additiveref34_seen p0, .agg [.int .i64 p1.X, .int .i64 p1.Y]] none = some (.bool r, fun _ => none) := by
  unfold t_additiveref34_found at h
  cases h10 : loopT (t_additiveref34_found_L0 p0 p1) bigN 0 with
  | none => (rw [h10] at h; cases h)
  | some v11 =>
    simp only [h10] at h
    have f12 := t_additiveref34_found_L0_ok h10
    cases v11 with
    | inl v11x =>
      try simp only at h
      simp only [t_additiveref34_found_L0_st, t_additiveref34_found_L0_out] at f12
      try simp only [fcase_nil, fcase_lst, fcase_fsnoc, fcase_fapp, fcase_fset, fcase_frep, fcase_flit, fcase_flst] at f12
      cases h
      refine FC_pure (lf := lf87) rfl rfl rfl ?_
      simp only [lf87, lc87, c87_0, c87_1, c87_2, c87_3, c87_4, c87_5, c87_7]
      simp (maxSteps := 4000000) [f12, e_i64, e_sl_api_Row, e_sl_api_Run, e_additiveref34_seen, e_api_Cell, e_api_Region, e_api_Row, e_api_Run, ↓c87_L0_u]
    | inr v11x =>
      try simp only at h
      simp only [t_additiveref34_found_L0_st, t_additiveref34_found_L0_out] at f12
      try simp only [fcase_nil, fcase_lst, fcase_fsnoc, fcase_fapp, fcase_fset, fcase_frep, fcase_flit, fcase_flst] at f12
      cases h
      refine FC_pure (lf := lf87) rfl rfl rfl ?_
      simp only [lf87, lc87, c87_0, c87_1, c87_2, c87_3, c87_4, c87_5, c87_7]
      simp (maxSteps := 4000000) [f12, e_i64, e_sl_api_Row, e_sl_api_Run, e_additiveref34_seen, e_api_Cell, e_api_Region, e_api_Row, e_api_Run, ↓c87_L0_u]

/-! additiveref34.search -/
theorem c50_L0_u (Γ : Env) (ps : List Nat) (σ : St) : EC Γ ps 0 c50_L0 σ = EC Γ ps 0 (.seq (.seq (.reg true c50_7) (.cond (.t 74) .skip (.seq (.trim [3, 5, 7, 8]) (.exit 2)))) (.seq (.blk 3 (.seq (.reg true c50_8) (.cond (.t 91) (.reg false c50_9) .skip))) (.reg false c50_10))) σ := rfl
theorem c50_L1_u (Γ : Env) (ps : List Nat) (σ : St) : EC Γ ps 0 c50_L1 σ = EC Γ ps 0 (.seq (.seq (.reg true c50_3) (.cond (.t 29) .skip (.seq (.trim [7]) (.exit 0)))) (.seq (.blk 1 (.seq (.reg false c50_4) (.seq (.reg false c50_5) (.seq (.reg false c50_6) (.blk 2 (.loop [3, 5, 7, 8, 10, 11] c50_L0)))))) (.reg false c50_12))) σ := rfl
def t_additiveref34_search_L0 (k0 : api_Region) (k1 : api_Cell) (k2 : Int) (k3 : (FS api_Cell)) (s : ((FS additiveref34_seen) × Int)) : Option (LR ((FS additiveref34_seen) × Int) (FS additiveref34_seen)) := match s with
 | (s0, s1) => (match gOpt (ilt s1 4) (fget s0 (isub .i64 (flen s0) 1)) with
 | none => none
 | some v17 => (if (band (ilt s1 4) (bnot (band (ieq ((((v17.getD (⟨(⟨0, 0⟩ : api_Cell), 0⟩ : additiveref34_seen))).cell).X) k1.X) (band (ieq ((((v17.getD (⟨(⟨0, 0⟩ : api_Cell), 0⟩ : additiveref34_seen))).cell).Y) k1.Y) true)))) = true then (match fget k3 s1 with
 | none => none
 | some v23 => (match t_additiveref18_Contains k0 v23 with
 | none => none
 | some v27 => (match gOpt v27 (t_additiveref34_found (flst s0) v23) with
 | none => none
 | some v33 => (if (band v27 (bnot (v33.getD false))) = true then (if fits 24 ((flen s0) + 1) = true then some (.nx ((fsnoc s0 (⟨v23, k2⟩ : additiveref34_seen)), (iadd .i64 s1 1))) else none)
 else some (.nx (s0, (iadd .i64 s1 1)))))))
 else some (.dn s0)))
def t_additiveref34_search_L0_st (k0 : api_Region) (k1 : api_Cell) (k2 : Int) (k3 : (FS api_Cell)) (s : ((FS additiveref34_seen) × Int)) : St := match s with
 | (s0, s1) => ⟨fr [(3, .ptr 3 0 0), (5, .ptr 5 0 0), (7, .arr 7 0 0 s0.l.length), (8, .int .i64 k2), (10, .arr 10 0 0 k3.l.length), (11, .int .i64 s1)], hl [(3, .box 0 [encF e_api_Row k0.Rows]), (5, .box 0 [.int .i64 k1.X, .int .i64 k1.Y]), (7, .arr 0 3 75 (cellsE e_additiveref34_seen s0.l) false), (10, .arr 0 2 26 (cellsE e_api_Cell k3.l) false)]⟩
def t_additiveref34_search_L0_out (k0 : api_Region) (k1 : api_Cell) (k2 : Int) (k3 : (FS api_Cell)) (x : (FS additiveref34_seen)) : LE × St := (.exit 2, ⟨fr [(3, .ptr 3 0 0), (5, .ptr 5 0 0), (7, .arr 7 0 0 x.l.length), (8, .int .i64 k2)], hl [(3, .box 0 [encF e_api_Row k0.Rows]), (5, .box 0 [.int .i64 k1.X, .int .i64 k1.Y]), (7, .arr 0 3 75 (cellsE e_additiveref34_seen x.l) false)]⟩)
theorem t_additiveref34_search_L0_ok {k0 : api_Region} {k1 : api_Cell} {k2 : Int} {k3 : (FS api_Cell)} {s : ((FS additiveref34_seen) × Int)} {r : (FS additiveref34_seen)} (h : loopT (t_additiveref34_search_L0 k0 k1 k2 k3) bigN s = some r) : LK env [] 0 [3, 5, 7, 8, 10, 11] c50_L0 (some (t_additiveref34_search_L0_st k0 k1 k2 k3 s)) = some (t_additiveref34_search_L0_out k0 k1 k2 k3 r) := loop_walk (st := t_additiveref34_search_L0_st k0 k1 k2 k3) (out := t_additiveref34_search_L0_out k0 k1 k2 k3) (by
  clear h s r
  rintro ⟨s0, s1⟩ x h
  simp only [t_additiveref34_search_L0] at h
  cases h16 : gOpt (ilt s1 4) (fget s0 (isub .i64 (flen s0) 1)) with
  | none => (rw [h16] at h; cases h)
  | some v17 =>
    simp only [h16] at h
    have f14 := fun (q0 : (ilt s1 4) = true) => iaddr_row (w := 3) (gOpt_getD (⟨(⟨0, 0⟩ : api_Cell), 0⟩ : additiveref34_seen) h16 q0)
    have f15 := fun (q0 : (ilt s1 4) = true) => (gOpt_getD (⟨(⟨0, 0⟩ : api_Cell), 0⟩ : additiveref34_seen) h16 q0)
    have f18 := fun (q0 : (ilt s1 4) = true) => (pack_row0 (e := e_additiveref34_seen) (f15 q0) true 2 (by decide) (by decide))
    simp only [e_additiveref34_seen] at f18
    by_cases c19 : (band (ilt s1 4) (bnot (band (ieq ((((v17.getD (⟨(⟨0, 0⟩ : api_Cell), 0⟩ : additiveref34_seen))).cell).X) k1.X) (band (ieq ((((v17.getD (⟨(⟨0, 0⟩ : api_Cell), 0⟩ : additiveref34_seen))).cell).Y) k1.Y) true)))) = true
    · rw [if_pos c19] at h
      cases h22 : fget k3 s1 with
      | none => (rw [h22] at h; cases h)
      | some v23 =>
        simp only [h22] at h
        have f20 := iaddr_row (w := 2) h22
        have f21 := h22
        have f24 := (pack_row0 (e := e_api_Cell) f21 true 2 (by decide) (by decide))
        simp only [e_api_Cell] at f24
        cases h26 : t_additiveref18_Contains k0 v23 with
        | none => (rw [h26] at h; cases h)
        | some v27 =>
          simp only [h26] at h
          have f25 := t_additiveref18_Contains_ok h26
          have f30 := (pack_row0 (e := e_api_Cell) f21 true 2 (by decide) (by decide))
          simp only [e_api_Cell] at f30
          cases h32 : gOpt v27 (t_additiveref34_found (flst s0) v23) with
          | none => (rw [h32] at h; cases h)
          | some v33 =>
            simp only [h32] at h
            have f31 := fun (q0 : v27 = true) => t_additiveref34_found_ok (gOpt_getD false h32 q0)
            try simp only [encF_nil] at f31
            by_cases c34 : (band v27 (bnot (v33.getD false))) = true
            · rw [if_pos c34] at h
              have f37 := (pack_row0 (e := e_api_Cell) f21 true 2 (by decide) (by decide))
              simp only [e_api_Cell] at f37
              by_cases h39 : fits 24 ((flen s0) + 1) = true
              · rw [if_pos h39] at h
                have f38 := fun g0 H y => @app_row1 _ _ e_additiveref34_seen _ s0 (⟨v23, k2⟩ : additiveref34_seen) 24 h39 (by decide) g0 H 7 0 75 y
                simp only [e_additiveref34_seen] at f38
                cases h
                show LK env [] 0 [3, 5, 7, 8, 10, 11] c50_L0 (some (t_additiveref34_search_L0_st _ _ _ _ _)) = LK env [] 0 [3, 5, 7, 8, 10, 11] c50_L0 (some (t_additiveref34_search_L0_st _ _ _ _ _))
                simp only [t_additiveref34_search_L0_st]
                rw [LK_step]
                rcases tof (ilt s1 4) with a40 | a40
                · rcases tof (ieq ((((v17.getD (⟨(⟨0, 0⟩ : api_Cell), 0⟩ : additiveref34_seen))).cell).X) k1.X) with a41 | a41
                  · rcases tof (ieq ((((v17.getD (⟨(⟨0, 0⟩ : api_Cell), 0⟩ : additiveref34_seen))).cell).Y) k1.Y) with a42 | a42
                    · simp [a40, a41, a42] at c19
                    · rcases tof v27 with a43 | a43
                      · rcases tof (v33.getD false) with a44 | a44
                        · simp [a40, a41, a42, a43, a44] at c34
                        · simp (maxSteps := 4000000) [a40, a41, a42, a43, a44, f14, f18, f20, f24, f25, f30, snap_rowD (e := e_additiveref34_seen) (el := 75) (fz := false), f31, f37, f38, e_i64, e_sl_api_Row, e_sl_api_Run, e_additiveref34_seen, e_api_Cell, e_api_Region, e_api_Row, e_api_Run, ↓c50_L0_u, ↓c50_L1_u, c50_0, c50_1, c50_2, c50_3, c50_4, c50_5, c50_6, c50_7, c50_8, c50_9, c50_10, c50_12, c50_14]
                      · simp [a40, a41, a42, a43] at c34
                  · rcases tof v27 with a45 | a45
                    · rcases tof (v33.getD false) with a46 | a46
                      · simp [a40, a41, a45, a46] at c34
                      · simp (maxSteps := 4000000) [a40, a41, a45, a46, f14, f18, f20, f24, f25, f30, snap_rowD (e := e_additiveref34_seen) (el := 75) (fz := false), f31, f37, f38, e_i64, e_sl_api_Row, e_sl_api_Run, e_additiveref34_seen, e_api_Cell, e_api_Region, e_api_Row, e_api_Run, ↓c50_L0_u, ↓c50_L1_u, c50_0, c50_1, c50_2, c50_3, c50_4, c50_5, c50_6, c50_7, c50_8, c50_9, c50_10, c50_12, c50_14]
                    · simp [a40, a41, a45] at c34
                · simp [a40] at c19
              · rw [if_neg h39] at h; cases h
            · rw [if_neg c34] at h
              rw [Bool.not_eq_true] at c34
              cases h
              show LK env [] 0 [3, 5, 7, 8, 10, 11] c50_L0 (some (t_additiveref34_search_L0_st _ _ _ _ _)) = LK env [] 0 [3, 5, 7, 8, 10, 11] c50_L0 (some (t_additiveref34_search_L0_st _ _ _ _ _))
              simp only [t_additiveref34_search_L0_st]
              rw [LK_step]
              rcases tof (ilt s1 4) with a47 | a47
              · rcases tof (ieq ((((v17.getD (⟨(⟨0, 0⟩ : api_Cell), 0⟩ : additiveref34_seen))).cell).X) k1.X) with a48 | a48
                · rcases tof (ieq ((((v17.getD (⟨(⟨0, 0⟩ : api_Cell), 0⟩ : additiveref34_seen))).cell).Y) k1.Y) with a49 | a49
                  · simp [a47, a48, a49] at c19
                  · rcases tof v27 with a50 | a50
                    · rcases tof (v33.getD false) with a51 | a51
                      · simp (maxSteps := 4000000) [a47, a48, a49, a50, a51, f14, f18, f20, f24, f25, f30, snap_rowD (e := e_additiveref34_seen) (el := 75) (fz := false), f31, e_i64, e_sl_api_Row, e_sl_api_Run, e_additiveref34_seen, e_api_Cell, e_api_Region, e_api_Row, e_api_Run, ↓c50_L0_u, ↓c50_L1_u, c50_0, c50_1, c50_2, c50_3, c50_4, c50_5, c50_6, c50_7, c50_8, c50_9, c50_10, c50_12, c50_14]
                      · simp [a47, a48, a49, a50, a51] at c34
                    · simp (maxSteps := 4000000) [a47, a48, a49, a50, f14, f18, f20, f24, f25, f30, snap_rowD (e := e_additiveref34_seen) (el := 75) (fz := false), f31, e_i64, e_sl_api_Row, e_sl_api_Run, e_additiveref34_seen, e_api_Cell, e_api_Region, e_api_Row, e_api_Run, ↓c50_L0_u, ↓c50_L1_u, c50_0, c50_1, c50_2, c50_3, c50_4, c50_5, c50_6, c50_7, c50_8, c50_9, c50_10, c50_12, c50_14]
                · rcases tof v27 with a52 | a52
                  · rcases tof (v33.getD false) with a53 | a53
                    · simp (maxSteps := 4000000) [a47, a48, a52, a53, f14, f18, f20, f24, f25, f30, snap_rowD (e := e_additiveref34_seen) (el := 75) (fz := false), f31, e_i64, e_sl_api_Row, e_sl_api_Run, e_additiveref34_seen, e_api_Cell, e_api_Region, e_api_Row, e_api_Run, ↓c50_L0_u, ↓c50_L1_u, c50_0, c50_1, c50_2, c50_3, c50_4, c50_5, c50_6, c50_7, c50_8, c50_9, c50_10, c50_12, c50_14]
                    · simp [a47, a48, a52, a53] at c34
                  · simp (maxSteps := 4000000) [a47, a48, a52, f14, f18, f20, f24, f25, f30, snap_rowD (e := e_additiveref34_seen) (el := 75) (fz := false), f31, e_i64, e_sl_api_Row, e_sl_api_Run, e_additiveref34_seen, e_api_Cell, e_api_Region, e_api_Row, e_api_Run, ↓c50_L0_u, ↓c50_L1_u, c50_0, c50_1, c50_2, c50_3, c50_4, c50_5, c50_6, c50_7, c50_8, c50_9, c50_10, c50_12, c50_14]
              · simp [a47] at c19
    · rw [if_neg c19] at h
      rw [Bool.not_eq_true] at c19
      cases h
      show LK env [] 0 [3, 5, 7, 8, 10, 11] c50_L0 (some (t_additiveref34_search_L0_st _ _ _ _ _)) = some (t_additiveref34_search_L0_out _ _ _ _ _)
      simp only [t_additiveref34_search_L0_st, t_additiveref34_search_L0_out]
      rw [LK_step]
      rcases tof (ilt s1 4) with a54 | a54
      · rcases tof (ieq ((((v17.getD (⟨(⟨0, 0⟩ : api_Cell), 0⟩ : additiveref34_seen))).cell).X) k1.X) with a55 | a55
        · rcases tof (ieq ((((v17.getD (⟨(⟨0, 0⟩ : api_Cell), 0⟩ : additiveref34_seen))).cell).Y) k1.Y) with a56 | a56
          · simp (maxSteps := 4000000) [a54, a55, a56, f14, f18, e_i64, e_sl_api_Row, e_sl_api_Run, e_additiveref34_seen, e_api_Cell, e_api_Region, e_api_Row, e_api_Run, ↓c50_L0_u, ↓c50_L1_u, c50_0, c50_1, c50_2, c50_3, c50_4, c50_5, c50_6, c50_7, c50_8, c50_9, c50_10, c50_12, c50_14]
          · simp [a54, a55, a56] at c19
        · simp [a54, a55] at c19
      · simp (maxSteps := 4000000) [a54, f14, f18, e_i64, e_sl_api_Row, e_sl_api_Run, e_additiveref34_seen, e_api_Cell, e_api_Region, e_api_Row, e_api_Run, ↓c50_L0_u, ↓c50_L1_u, c50_0, c50_1, c50_2, c50_3, c50_4, c50_5, c50_6, c50_7, c50_8, c50_9, c50_10, c50_12, c50_14]) bigN s r h
def t_additiveref34_search_L1 (k0 : api_Region) (k1 : api_Cell) (s : ((FS additiveref34_seen) × Int)) : Option (LR ((FS additiveref34_seen) × Int) (FS additiveref34_seen)) := match s with
 | (s0, s1) => (match gOpt (ilt s1 (flen s0)) (fget s0 (isub .i64 (flen s0) 1)) with
 | none => none
 | some v5 => (if (band (ilt s1 (flen s0)) (bnot (band (ieq ((((v5.getD (⟨(⟨0, 0⟩ : api_Cell), 0⟩ : additiveref34_seen))).cell).X) k1.X) (band (ieq ((((v5.getD (⟨(⟨0, 0⟩ : api_Cell), 0⟩ : additiveref34_seen))).cell).Y) k1.Y) true)))) = true then (match fget s0 s1 with
 | none => none
 | some v11 => (match loopT (t_additiveref34_search_L0 k0 k1 s1 (flit ([(⟨(iadd .i64 v11.cell.X 1), v11.cell.Y⟩ : api_Cell), (⟨(isub .i64 v11.cell.X 1), v11.cell.Y⟩ : api_Cell), (⟨v11.cell.X, (iadd .i64 v11.cell.Y 1)⟩ : api_Cell), (⟨v11.cell.X, (isub .i64 v11.cell.Y 1)⟩ : api_Cell)] : List api_Cell))) bigN (s0, 0) with
 | none => none
 | some v41 => some (.nx (v41, (iadd .i64 s1 1)))))
 else some (.dn s0)))
def t_additiveref34_search_L1_st (k0 : api_Region) (k1 : api_Cell) (s : ((FS additiveref34_seen) × Int)) : St := match s with
 | (s0, s1) => ⟨fr [(3, .ptr 3 0 0), (5, .ptr 5 0 0), (7, .arr 7 0 0 s0.l.length), (8, .int .i64 s1)], hl [(3, .box 0 [encF e_api_Row k0.Rows]), (5, .box 0 [.int .i64 k1.X, .int .i64 k1.Y]), (7, .arr 0 3 75 (cellsE e_additiveref34_seen s0.l) false)]⟩
def t_additiveref34_search_L1_out (k0 : api_Region) (k1 : api_Cell) (x : (FS additiveref34_seen)) : LE × St := (.exit 0, ⟨fr [(7, .arr 7 0 0 x.l.length)], hl [(7, .arr 0 3 75 (cellsE e_additiveref34_seen x.l) false)]⟩)
theorem t_additiveref34_search_L1_ok {k0 : api_Region} {k1 : api_Cell} {s : ((FS additiveref34_seen) × Int)} {r : (FS additiveref34_seen)} (h : loopT (t_additiveref34_search_L1 k0 k1) bigN s = some r) : LK env [] 0 [3, 5, 7, 8] c50_L1 (some (t_additiveref34_search_L1_st k0 k1 s)) = some (t_additiveref34_search_L1_out k0 k1 r) := loop_walk (st := t_additiveref34_search_L1_st k0 k1) (out := t_additiveref34_search_L1_out k0 k1) (by
  clear h s r
  rintro ⟨s0, s1⟩ x h
  simp only [t_additiveref34_search_L1] at h
  cases h4 : gOpt (ilt s1 (flen s0)) (fget s0 (isub .i64 (flen s0) 1)) with
  | none => (rw [h4] at h; cases h)
  | some v5 =>
    simp only [h4] at h
    have f2 := fun (q0 : (ilt s1 (flen s0)) = true) => iaddr_row (w := 3) (gOpt_getD (⟨(⟨0, 0⟩ : api_Cell), 0⟩ : additiveref34_seen) h4 q0)
    have f3 := fun (q0 : (ilt s1 (flen s0)) = true) => (gOpt_getD (⟨(⟨0, 0⟩ : api_Cell), 0⟩ : additiveref34_seen) h4 q0)
    have f6 := fun (q0 : (ilt s1 (flen s0)) = true) => (pack_row0 (e := e_additiveref34_seen) (f3 q0) true 2 (by decide) (by decide))
    simp only [e_additiveref34_seen] at f6
    by_cases c7 : (band (ilt s1 (flen s0)) (bnot (band (ieq ((((v5.getD (⟨(⟨0, 0⟩ : api_Cell), 0⟩ : additiveref34_seen))).cell).X) k1.X) (band (ieq ((((v5.getD (⟨(⟨0, 0⟩ : api_Cell), 0⟩ : additiveref34_seen))).cell).Y) k1.Y) true)))) = true
    · rw [if_pos c7] at h
      cases h10 : fget s0 s1 with
      | none => (rw [h10] at h; cases h)
      | some v11 =>
        simp only [h10] at h
        have f8 := iaddr_row (w := 3) h10
        have f9 := h10
        have f12 := (pack_row0 (e := e_additiveref34_seen) f9 true 2 (by decide) (by decide))
        simp only [e_additiveref34_seen] at f12
        have f13 : ∀ (H : Heap) (g0 : Nat), bslV H g0 4 2 26 (some [.int .i64 (iadd .i64 v11.cell.X 1), .int .i64 v11.cell.Y, .int .i64 (isub .i64 v11.cell.X 1), .int .i64 v11.cell.Y, .int .i64 v11.cell.X, .int .i64 (iadd .i64 v11.cell.Y 1), .int .i64 v11.cell.X, .int .i64 (isub .i64 v11.cell.Y 1)]) = some (.arr g0 (newVer H g0) 0 (flit ([(⟨(iadd .i64 v11.cell.X 1), v11.cell.Y⟩ : api_Cell), (⟨(isub .i64 v11.cell.X 1), v11.cell.Y⟩ : api_Cell), (⟨v11.cell.X, (iadd .i64 v11.cell.Y 1)⟩ : api_Cell), (⟨v11.cell.X, (isub .i64 v11.cell.Y 1)⟩ : api_Cell)] : List api_Cell)).l.length, upd H g0 (some (.arr (newVer H g0) 2 26 (cellsE e_api_Cell (flit ([(⟨(iadd .i64 v11.cell.X 1), v11.cell.Y⟩ : api_Cell), (⟨(isub .i64 v11.cell.X 1), v11.cell.Y⟩ : api_Cell), (⟨v11.cell.X, (iadd .i64 v11.cell.Y 1)⟩ : api_Cell), (⟨v11.cell.X, (isub .i64 v11.cell.Y 1)⟩ : api_Cell)] : List api_Cell)).l) false))) := fun H g0 => rfl
        cases h57 : loopT (t_additiveref34_search_L0 k0 k1 s1 (flit ([(⟨(iadd .i64 v11.cell.X 1), v11.cell.Y⟩ : api_Cell), (⟨(isub .i64 v11.cell.X 1), v11.cell.Y⟩ : api_Cell), (⟨v11.cell.X, (iadd .i64 v11.cell.Y 1)⟩ : api_Cell), (⟨v11.cell.X, (isub .i64 v11.cell.Y 1)⟩ : api_Cell)] : List api_Cell))) bigN (s0, 0) with
        | none => (rw [h57] at h; cases h)
        | some v58 =>
          simp only [h57] at h
          have f59 := t_additiveref34_search_L0_ok h57
          simp only [t_additiveref34_search_L0_st, t_additiveref34_search_L0_out] at f59
          try simp only [fcase_nil, fcase_lst, fcase_fsnoc, fcase_fapp, fcase_fset, fcase_frep, fcase_flit, fcase_flst] at f59
          cases h
          show LK env [] 0 [3, 5, 7, 8] c50_L1 (some (t_additiveref34_search_L1_st _ _ _)) = LK env [] 0 [3, 5, 7, 8] c50_L1 (some (t_additiveref34_search_L1_st _ _ _))
          simp only [t_additiveref34_search_L1_st]
          rw [LK_step]
          rcases tof (ilt s1 (flen s0)) with a60 | a60
          · rcases tof (ieq ((((v5.getD (⟨(⟨0, 0⟩ : api_Cell), 0⟩ : additiveref34_seen))).cell).X) k1.X) with a61 | a61
            · rcases tof (ieq ((((v5.getD (⟨(⟨0, 0⟩ : api_Cell), 0⟩ : additiveref34_seen))).cell).Y) k1.Y) with a62 | a62
              · simp [a60, a61, a62] at c7
              · try simp only [a60, a61, a62] at f59
                simp (maxSteps := 4000000) [a60, a61, a62, f2, f6, f8, f12, f13, f59, e_i64, e_sl_api_Row, e_sl_api_Run, e_additiveref34_seen, e_api_Cell, e_api_Region, e_api_Row, e_api_Run, ↓c50_L0_u, ↓c50_L1_u, c50_0, c50_1, c50_2, c50_3, c50_4, c50_5, c50_6, c50_7, c50_8, c50_9, c50_10, c50_12, c50_14]
            · try simp only [a60, a61] at f59
              simp (maxSteps := 4000000) [a60, a61, f2, f6, f8, f12, f13, f59, e_i64, e_sl_api_Row, e_sl_api_Run, e_additiveref34_seen, e_api_Cell, e_api_Region, e_api_Row, e_api_Run, ↓c50_L0_u, ↓c50_L1_u, c50_0, c50_1, c50_2, c50_3, c50_4, c50_5, c50_6, c50_7, c50_8, c50_9, c50_10, c50_12, c50_14]
          · simp [a60] at c7
    · rw [if_neg c7] at h
      rw [Bool.not_eq_true] at c7
      cases h
      show LK env [] 0 [3, 5, 7, 8] c50_L1 (some (t_additiveref34_search_L1_st _ _ _)) = some (t_additiveref34_search_L1_out _ _ _)
      simp only [t_additiveref34_search_L1_st, t_additiveref34_search_L1_out]
      rw [LK_step]
      rcases tof (ilt s1 (flen s0)) with a63 | a63
      · rcases tof (ieq ((((v5.getD (⟨(⟨0, 0⟩ : api_Cell), 0⟩ : additiveref34_seen))).cell).X) k1.X) with a64 | a64
        · rcases tof (ieq ((((v5.getD (⟨(⟨0, 0⟩ : api_Cell), 0⟩ : additiveref34_seen))).cell).Y) k1.Y) with a65 | a65
          · simp (maxSteps := 4000000) [a63, a64, a65, f2, f6, e_i64, e_sl_api_Row, e_sl_api_Run, e_additiveref34_seen, e_api_Cell, e_api_Region, e_api_Row, e_api_Run, ↓c50_L0_u, ↓c50_L1_u, c50_0, c50_1, c50_2, c50_3, c50_4, c50_5, c50_6, c50_7, c50_8, c50_9, c50_10, c50_12, c50_14]
          · simp [a63, a64, a65] at c7
        · simp [a63, a64] at c7
      · simp (maxSteps := 4000000) [a63, f2, f6, e_i64, e_sl_api_Row, e_sl_api_Run, e_additiveref34_seen, e_api_Cell, e_api_Region, e_api_Row, e_api_Run, ↓c50_L0_u, ↓c50_L1_u, c50_0, c50_1, c50_2, c50_3, c50_4, c50_5, c50_6, c50_7, c50_8, c50_9, c50_10, c50_12, c50_14]) bigN s r h
def t_additiveref34_search (p0 : api_Region) (p1 : api_Cell) (p2 : api_Cell) : Option (FS additiveref34_seen) := (match loopT (t_additiveref34_search_L1 p0 p2) bigN ((flit ([(⟨p1, (-1)⟩ : additiveref34_seen)] : List additiveref34_seen)), 0) with
 | none => none
 | some v44 => some (flst v44))
theorem t_additiveref34_search_ok {p0 : api_Region} {p1 : api_Cell} {p2 : api_Cell} {r : (FS additiveref34_seen)} (h : t_additiveref34_search p0 p1 p2 = some r) : FC env 50 [.agg [encF e_api_Row p0.Rows], .agg [.int .i64 p1.X, .int .i64 p1.Y], .agg [.int .i64 p2.X, .int .i64 p2.Y]] none = some (encF e_additiveref34_seen r, fun _ => none) := by
  unfold t_additiveref34_search at h
  have f1 : ∀ (H : Heap) (g0 : Nat), bslV H g0 1 3 75 (some [.int .i64 p1.X, .int .i64 p1.Y, .int .i64 (-1)]) = some (.arr g0 (newVer H g0) 0 (flit ([(⟨p1, (-1)⟩ : additiveref34_seen)] : List additiveref34_seen)).l.length, upd H g0 (some (.arr (newVer H g0) 3 75 (cellsE e_additiveref34_seen (flit ([(⟨p1, (-1)⟩ : additiveref34_seen)] : List additiveref34_seen)).l) false))) := fun H g0 => rfl
  cases h66 : loopT (t_additiveref34_search_L1 p0 p2) bigN ((flit ([(⟨p1, (-1)⟩ : additiveref34_seen)] : List additiveref34_seen)), 0) with
  | none => (rw [h66] at h; cases h)
  | some v67 =>
    simp only [h66] at h
    have f68 := t_additiveref34_search_L1_ok h66
    simp only [t_additiveref34_search_L1_st, t_additiveref34_search_L1_out] at f68
    try simp only [fcase_nil, fcase_lst, fcase_fsnoc, fcase_fapp, fcase_fset, fcase_frep, fcase_flit, fcase_flst] at f68
    cases h
    refine FC_pure (lf := lf50) rfl rfl rfl ?_
    simp only [lf50, lc50, c50_0, c50_1, c50_2, c50_3, c50_4, c50_5, c50_6, c50_7, c50_8, c50_9, c50_10, c50_12, c50_14]
    simp (maxSteps := 4000000) [f1, -bslV_1, f68, e_i64, e_sl_api_Row, e_sl_api_Run, e_additiveref34_seen, e_api_Cell, e_api_Region, e_api_Row, e_api_Run, ↓c50_L0_u, ↓c50_L1_u, snap_rowD (e := e_additiveref34_seen) (el := 75) (fz := false)]

/-! additiveref34.Path -/
theorem c19_L0_u (Γ : Env) (ps : List Nat) (σ : St) : EC Γ ps 0 c19_L0 σ = EC Γ ps 0 (.seq (.seq (.reg false c19_8) (.cond (.t 40) .skip (.seq (.trim [9]) (.exit 0)))) (.seq (.blk 1 (.reg false c19_9)) (.reg false c19_10))) σ := rfl
theorem c19_L1_u (Γ : Env) (ps : List Nat) (σ : St) : EC Γ ps 0 c19_L1 σ = EC Γ ps 0 (.seq (.seq (.reg false c19_14) (.cond (.t 58) .skip (.seq (.trim [11]) (.exit 2)))) (.seq (.blk 3 (.reg false c19_15)) (.reg false c19_16))) σ := rfl
def t_additiveref34_Path_L0 (k0 : (FS additiveref34_seen)) (s : ((FS api_Cell) × Int)) : Option (LR ((FS api_Cell) × Int) (FS api_Cell)) := match s with
 | (s0, s1) => (if (ige s1 0) = true then (match fget k0 s1 with
 | none => none
 | some v18 => (if fits 16 ((flen s0) + 1) = true then some (.nx ((fsnoc s0 v18.cell), v18.before)) else none))
 else some (.dn s0))
def t_additiveref34_Path_L0_st (k0 : (FS additiveref34_seen)) (s : ((FS api_Cell) × Int)) : St := match s with
 | (s0, s1) => (fcase s0 (⟨fr [(8, encF e_additiveref34_seen k0), (9, .nils), (10, .int .i64 s1)], hl []⟩)
  (fun l0 => ⟨fr [(8, encF e_additiveref34_seen k0), (9, .arr 9 0 0 l0.l.length), (10, .int .i64 s1)], hl [(9, .arr 0 2 26 (cellsE e_api_Cell l0.l) false)]⟩))
def t_additiveref34_Path_L0_out (k0 : (FS additiveref34_seen)) (x : (FS api_Cell)) : LE × St := (fcase x (.exit 0, ⟨fr [(9, .nils)], hl []⟩)
  (fun l0 => (.exit 0, ⟨fr [(9, .arr 9 0 0 l0.l.length)], hl [(9, .arr 0 2 26 (cellsE e_api_Cell l0.l) false)]⟩)))
theorem t_additiveref34_Path_L0_ok {k0 : (FS additiveref34_seen)} {s : ((FS api_Cell) × Int)} {r : (FS api_Cell)} (h : loopT (t_additiveref34_Path_L0 k0) bigN s = some r) : LK env [] 0 [8, 9, 10] c19_L0 (some (t_additiveref34_Path_L0_st k0 s)) = some (t_additiveref34_Path_L0_out k0 r) := loop_walk (st := t_additiveref34_Path_L0_st k0) (out := t_additiveref34_Path_L0_out k0) (by
  clear h s r
  rintro ⟨s0, s1⟩ x h
  simp only [t_additiveref34_Path_L0] at h
  cases e22 : s0 with
  | nil =>
    try simp only [e22, flen_nil] at h
    by_cases c23 : (ige s1 0) = true
    · rw [if_pos c23] at h
      cases h25 : fget k0 s1 with
      | none => (rw [h25] at h; cases h)
      | some v26 =>
        simp only [h25] at h
        have f24 := iaddr_F (e := e_additiveref34_seen) h25
        by_cases h28 : fits 16 (0 + 1) = true
        · rw [if_pos h28] at h
          have f27 := fun H g0 hg y => @app_nil _ _ e_api_Cell _ v26.cell 16 h28 (by decide) H g0 26 y hg
          simp only [e_api_Cell] at f27
          cases h
          show LK env [] 0 [8, 9, 10] c19_L0 (some (t_additiveref34_Path_L0_st _ _)) = LK env [] 0 [8, 9, 10] c19_L0 (some (t_additiveref34_Path_L0_st _ _))
          simp only [t_additiveref34_Path_L0_st, e22]
          rw [LK_step]
          simp (maxSteps := 4000000) [c23, e22, f24, f27, e_i64, e_sl_api_Row, e_sl_api_Run, e_additiveref34_seen, e_api_Cell, e_api_Region, e_api_Row, e_api_Run, ↓c19_L0_u, ↓c19_L1_u, c19_0, c19_1, c19_2, c19_3, c19_4, c19_5, c19_6, c19_7, c19_8, c19_9, c19_10, c19_12, c19_13, c19_14, c19_15, c19_16, c19_18]
        · rw [if_neg h28] at h; cases h
    · rw [if_neg c23] at h
      rw [Bool.not_eq_true] at c23
      cases h
      show LK env [] 0 [8, 9, 10] c19_L0 (some (t_additiveref34_Path_L0_st _ _)) = some (t_additiveref34_Path_L0_out _ _)
      simp only [t_additiveref34_Path_L0_st, t_additiveref34_Path_L0_out, e22]
      rw [LK_step]
      simp (maxSteps := 4000000) [c23, e22, e_i64, e_sl_api_Row, e_sl_api_Run, e_additiveref34_seen, e_api_Cell, e_api_Region, e_api_Row, e_api_Run, ↓c19_L0_u, ↓c19_L1_u, c19_0, c19_1, c19_2, c19_3, c19_4, c19_5, c19_6, c19_7, c19_8, c19_9, c19_10, c19_12, c19_13, c19_14, c19_15, c19_16, c19_18]
  | lst l21 =>
    try simp only [e22] at h
    by_cases c30 : (ige s1 0) = true
    · rw [if_pos c30] at h
      cases h32 : fget k0 s1 with
      | none => (rw [h32] at h; cases h)
      | some v33 =>
        simp only [h32] at h
        have f31 := iaddr_F (e := e_additiveref34_seen) h32
        by_cases h35 : fits 16 ((flen (FS.lst l21)) + 1) = true
        · rw [if_pos h35] at h
          have f34 := fun g0 H y => @app_row1 _ _ e_api_Cell _ (FS.lst l21) v33.cell 16 h35 (by decide) g0 H 9 0 26 y
          simp only [e_api_Cell] at f34
          cases h
          show LK env [] 0 [8, 9, 10] c19_L0 (some (t_additiveref34_Path_L0_st _ _)) = LK env [] 0 [8, 9, 10] c19_L0 (some (t_additiveref34_Path_L0_st _ _))
          simp only [t_additiveref34_Path_L0_st, e22]
          rw [LK_step]
          simp (maxSteps := 4000000) [c30, e22, f31, f34, e_i64, e_sl_api_Row, e_sl_api_Run, e_additiveref34_seen, e_api_Cell, e_api_Region, e_api_Row, e_api_Run, ↓c19_L0_u, ↓c19_L1_u, c19_0, c19_1, c19_2, c19_3, c19_4, c19_5, c19_6, c19_7, c19_8, c19_9, c19_10, c19_12, c19_13, c19_14, c19_15, c19_16, c19_18]
        · rw [if_neg h35] at h; cases h
    · rw [if_neg c30] at h
      rw [Bool.not_eq_true] at c30
      cases h
      show LK env [] 0 [8, 9, 10] c19_L0 (some (t_additiveref34_Path_L0_st _ _)) = some (t_additiveref34_Path_L0_out _ _)
      simp only [t_additiveref34_Path_L0_st, t_additiveref34_Path_L0_out, e22]
      rw [LK_step]
      simp (maxSteps := 4000000) [c30, e22, e_i64, e_sl_api_Row, e_sl_api_Run, e_additiveref34_seen, e_api_Cell, e_api_Region, e_api_Row, e_api_Run, ↓c19_L0_u, ↓c19_L1_u, c19_0, c19_1, c19_2, c19_3, c19_4, c19_5, c19_6, c19_7, c19_8, c19_9, c19_10, c19_12, c19_13, c19_14, c19_15, c19_16, c19_18]) bigN s r h
def t_additiveref34_Path_L1 (k0 : (FS api_Cell)) (s : ((FS api_Cell) × Int)) : Option (LR ((FS api_Cell) × Int) (FS api_Cell)) := match s with
 | (s0, s1) => (if (ige s1 0) = true then (match fget k0 s1 with
 | none => none
 | some v28 => (if fits 16 ((flen s0) + 1) = true then some (.nx ((fsnoc s0 v28), (isub .i64 s1 1))) else none))
 else some (.dn s0))
def t_additiveref34_Path_L1_st (k0 : (FS api_Cell)) (s : ((FS api_Cell) × Int)) : St := match s with
 | (s0, s1) => (fcase k0 (fcase s0 (⟨fr [(9, .nils), (11, .nils), (12, .int .i64 s1)], hl []⟩)
  (fun l1 => ⟨fr [(9, .nils), (11, .arr 11 0 0 l1.l.length), (12, .int .i64 s1)], hl [(11, .arr 0 2 26 (cellsE e_api_Cell l1.l) false)]⟩))
  (fun l0 => (fcase s0 (⟨fr [(9, .arr 9 0 0 l0.l.length), (11, .nils), (12, .int .i64 s1)], hl [(9, .arr 0 2 26 (cellsE e_api_Cell l0.l) false)]⟩)
  (fun l1 => ⟨fr [(9, .arr 9 0 0 l0.l.length), (11, .arr 11 0 0 l1.l.length), (12, .int .i64 s1)], hl [(9, .arr 0 2 26 (cellsE e_api_Cell l0.l) false), (11, .arr 0 2 26 (cellsE e_api_Cell l1.l) false)]⟩))))
def t_additiveref34_Path_L1_out (k0 : (FS api_Cell)) (x : (FS api_Cell)) : LE × St := (fcase x (.exit 2, ⟨fr [(11, .nils)], hl []⟩)
  (fun l0 => (.exit 2, ⟨fr [(11, .arr 11 0 0 l0.l.length)], hl [(11, .arr 0 2 26 (cellsE e_api_Cell l0.l) false)]⟩)))
theorem t_additiveref34_Path_L1_ok {k0 : (FS api_Cell)} {s : ((FS api_Cell) × Int)} {r : (FS api_Cell)} (h : loopT (t_additiveref34_Path_L1 k0) bigN s = some r) : LK env [] 0 [9, 11, 12] c19_L1 (some (t_additiveref34_Path_L1_st k0 s)) = some (t_additiveref34_Path_L1_out k0 r) := loop_walk (st := t_additiveref34_Path_L1_st k0) (out := t_additiveref34_Path_L1_out k0) (by
  clear h s r
  rintro ⟨s0, s1⟩ x h
  simp only [t_additiveref34_Path_L1] at h
  cases e43 : k0 with
  | nil =>
    try simp only [e43, flen_nil] at h
    cases e45 : s0 with
    | nil =>
      try simp only [e45, flen_nil] at h
      by_cases c46 : (ige s1 0) = true
      · rw [if_pos c46] at h
        exact absurd h (by simp [fget_nil])
      · rw [if_neg c46] at h
        rw [Bool.not_eq_true] at c46
        cases h
        show LK env [] 0 [9, 11, 12] c19_L1 (some (t_additiveref34_Path_L1_st _ _)) = some (t_additiveref34_Path_L1_out _ _)
        simp only [t_additiveref34_Path_L1_st, t_additiveref34_Path_L1_out, e43, e45]
        rw [LK_step]
        simp (maxSteps := 4000000) [c46, e43, e45, e_i64, e_sl_api_Row, e_sl_api_Run, e_additiveref34_seen, e_api_Cell, e_api_Region, e_api_Row, e_api_Run, ↓c19_L0_u, ↓c19_L1_u, c19_0, c19_1, c19_2, c19_3, c19_4, c19_5, c19_6, c19_7, c19_8, c19_9, c19_10, c19_12, c19_13, c19_14, c19_15, c19_16, c19_18]
    | lst l44 =>
      try simp only [e45] at h
      by_cases c47 : (ige s1 0) = true
      · rw [if_pos c47] at h
        exact absurd h (by simp [fget_nil])
      · rw [if_neg c47] at h
        rw [Bool.not_eq_true] at c47
        cases h
        show LK env [] 0 [9, 11, 12] c19_L1 (some (t_additiveref34_Path_L1_st _ _)) = some (t_additiveref34_Path_L1_out _ _)
        simp only [t_additiveref34_Path_L1_st, t_additiveref34_Path_L1_out, e43, e45]
        rw [LK_step]
        simp (maxSteps := 4000000) [c47, e43, e45, e_i64, e_sl_api_Row, e_sl_api_Run, e_additiveref34_seen, e_api_Cell, e_api_Region, e_api_Row, e_api_Run, ↓c19_L0_u, ↓c19_L1_u, c19_0, c19_1, c19_2, c19_3, c19_4, c19_5, c19_6, c19_7, c19_8, c19_9, c19_10, c19_12, c19_13, c19_14, c19_15, c19_16, c19_18]
  | lst l42 =>
    try simp only [e43] at h
    cases e49 : s0 with
    | nil =>
      try simp only [e49, flen_nil] at h
      by_cases c50 : (ige s1 0) = true
      · rw [if_pos c50] at h
        cases h53 : fget (FS.lst l42) s1 with
        | none => (rw [h53] at h; cases h)
        | some v54 =>
          simp only [h53] at h
          have f51 := iaddr_row (w := 2) h53
          have f52 := h53
          have f55 := (pack_row0 (e := e_api_Cell) f52 true 2 (by decide) (by decide))
          simp only [e_api_Cell] at f55
          by_cases h57 : fits 16 (0 + 1) = true
          · rw [if_pos h57] at h
            have f56 := fun H g0 hg y => @app_nil _ _ e_api_Cell _ v54 16 h57 (by decide) H g0 26 y hg
            simp only [e_api_Cell] at f56
            cases h
            show LK env [] 0 [9, 11, 12] c19_L1 (some (t_additiveref34_Path_L1_st _ _)) = LK env [] 0 [9, 11, 12] c19_L1 (some (t_additiveref34_Path_L1_st _ _))
            simp only [t_additiveref34_Path_L1_st, e43, e49]
            rw [LK_step]
            simp (maxSteps := 4000000) [c50, e43, e49, f51, f55, f56, e_i64, e_sl_api_Row, e_sl_api_Run, e_additiveref34_seen, e_api_Cell, e_api_Region, e_api_Row, e_api_Run, ↓c19_L0_u, ↓c19_L1_u, c19_0, c19_1, c19_2, c19_3, c19_4, c19_5, c19_6, c19_7, c19_8, c19_9, c19_10, c19_12, c19_13, c19_14, c19_15, c19_16, c19_18]
          · rw [if_neg h57] at h; cases h
      · rw [if_neg c50] at h
        rw [Bool.not_eq_true] at c50
        cases h
        show LK env [] 0 [9, 11, 12] c19_L1 (some (t_additiveref34_Path_L1_st _ _)) = some (t_additiveref34_Path_L1_out _ _)
        simp only [t_additiveref34_Path_L1_st, t_additiveref34_Path_L1_out, e43, e49]
        rw [LK_step]
        simp (maxSteps := 4000000) [c50, e43, e49, e_i64, e_sl_api_Row, e_sl_api_Run, e_additiveref34_seen, e_api_Cell, e_api_Region, e_api_Row, e_api_Run, ↓c19_L0_u, ↓c19_L1_u, c19_0, c19_1, c19_2, c19_3, c19_4, c19_5, c19_6, c19_7, c19_8, c19_9, c19_10, c19_12, c19_13, c19_14, c19_15, c19_16, c19_18]
    | lst l48 =>
      try simp only [e49] at h
      by_cases c58 : (ige s1 0) = true
      · rw [if_pos c58] at h
        cases h61 : fget (FS.lst l42) s1 with
        | none => (rw [h61] at h; cases h)
        | some v62 =>
          simp only [h61] at h
          have f59 := iaddr_row (w := 2) h61
          have f60 := h61
          have f63 := (pack_row0 (e := e_api_Cell) f60 true 2 (by decide) (by decide))
          simp only [e_api_Cell] at f63
          by_cases h65 : fits 16 ((flen (FS.lst l48)) + 1) = true
          · rw [if_pos h65] at h
            have f64 := fun g0 H y => @app_row1 _ _ e_api_Cell _ (FS.lst l48) v62 16 h65 (by decide) g0 H 11 0 26 y
            simp only [e_api_Cell] at f64
            cases h
            show LK env [] 0 [9, 11, 12] c19_L1 (some (t_additiveref34_Path_L1_st _ _)) = LK env [] 0 [9, 11, 12] c19_L1 (some (t_additiveref34_Path_L1_st _ _))
            simp only [t_additiveref34_Path_L1_st, e43, e49]
            rw [LK_step]
            simp (maxSteps := 4000000) [c58, e43, e49, f59, f63, f64, e_i64, e_sl_api_Row, e_sl_api_Run, e_additiveref34_seen, e_api_Cell, e_api_Region, e_api_Row, e_api_Run, ↓c19_L0_u, ↓c19_L1_u, c19_0, c19_1, c19_2, c19_3, c19_4, c19_5, c19_6, c19_7, c19_8, c19_9, c19_10, c19_12, c19_13, c19_14, c19_15, c19_16, c19_18]
          · rw [if_neg h65] at h; cases h
      · rw [if_neg c58] at h
        rw [Bool.not_eq_true] at c58
        cases h
        show LK env [] 0 [9, 11, 12] c19_L1 (some (t_additiveref34_Path_L1_st _ _)) = some (t_additiveref34_Path_L1_out _ _)
        simp only [t_additiveref34_Path_L1_st, t_additiveref34_Path_L1_out, e43, e49]
        rw [LK_step]
        simp (maxSteps := 4000000) [c58, e43, e49, e_i64, e_sl_api_Row, e_sl_api_Run, e_additiveref34_seen, e_api_Cell, e_api_Region, e_api_Row, e_api_Run, ↓c19_L0_u, ↓c19_L1_u, c19_0, c19_1, c19_2, c19_3, c19_4, c19_5, c19_6, c19_7, c19_8, c19_9, c19_10, c19_12, c19_13, c19_14, c19_15, c19_16, c19_18]) bigN s r h
def t_additiveref34_Path (p0 : api_Region) (p1 : api_Cell) (p2 : api_Cell) : Option ((FS api_Cell) × Bool) := (match t_additiveref18_Contains p0 p1 with
 | none => none
 | some v3 => (match gOpt (bnot (bnot v3)) (t_additiveref18_Contains p0 p2) with
 | none => none
 | some v6 => (if (bor (bnot v3) (bnot (v6.getD false))) = true then some ((FS.nil : (FS api_Cell)), false)
 else (match t_additiveref34_search p0 p1 p2 with
 | none => none
 | some v10 => (match fget v10 (isub .i64 (flen v10) 1) with
 | none => none
 | some v13 => (if (bnot (band (ieq v13.cell.X p2.X) (band (ieq v13.cell.Y p2.Y) true))) = true then some ((FS.nil : (FS api_Cell)), false)
 else (match loopT (t_additiveref34_Path_L0 v10) bigN ((FS.nil : (FS api_Cell)), (isub .i64 (flen v10) 1)) with
 | none => none
 | some v23 => (match loopT (t_additiveref34_Path_L1 v23) bigN ((FS.nil : (FS api_Cell)), (isub .i64 (flen v23) 1)) with
 | none => none
 | some v33 => some (v33, true)))))))))
theorem t_additiveref34_Path_ok {p0 : api_Region} {p1 : api_Cell} {p2 : api_Cell} {r : ((FS api_Cell) × Bool)} (h : t_additiveref34_Path p0 p1 p2 = some r) : FC env 19 [.agg [encF e_api_Row p0.Rows], .agg [.int .i64 p1.X, .int .i64 p1.Y], .agg [.int .i64 p2.X, .int .i64 p2.Y]] none = some (.tup [encF e_api_Cell r.1, .bool r.2], fun _ => none) := by
  unfold t_additiveref34_Path at h
  cases h2 : t_additiveref18_Contains p0 p1 with
  | none => (rw [h2] at h; cases h)
  | some v3 =>
    simp only [h2] at h
    have f1 := t_additiveref18_Contains_ok h2
    cases h5 : gOpt (bnot (bnot v3)) (t_additiveref18_Contains p0 p2) with
    | none => (rw [h5] at h; cases h)
    | some v6 =>
      simp only [h5] at h
      have f4 := fun (q0 : (bnot v3) = false) => t_additiveref18_Contains_ok (gOpt_getD false h5 (bnot_mk q0))
      by_cases c7 : (bor (bnot v3) (bnot (v6.getD false))) = true
      · rw [if_pos c7] at h
        cases h
        refine FC_pure (lf := lf19) rfl rfl rfl ?_
        simp only [lf19, lc19, c19_0, c19_1, c19_2, c19_3, c19_4, c19_5, c19_6, c19_7, c19_8, c19_9, c19_10, c19_12, c19_13, c19_14, c19_15, c19_16, c19_18]
        rcases tof v3 with a8 | a8
        · rcases tof (v6.getD false) with a9 | a9
          · simp [a8, a9] at c7
          · simp (maxSteps := 4000000) [a8, a9, f1, f4, e_i64, e_sl_api_Row, e_sl_api_Run, e_additiveref34_seen, e_api_Cell, e_api_Region, e_api_Row, e_api_Run, ↓c19_L0_u, ↓c19_L1_u, snap_tupE, tupS, snap7_int, snap7_bool, snap7_str, snap7_nils, snap7_agg]
        · simp (maxSteps := 4000000) [a8, f1, f4, e_i64, e_sl_api_Row, e_sl_api_Run, e_additiveref34_seen, e_api_Cell, e_api_Region, e_api_Row, e_api_Run, ↓c19_L0_u, ↓c19_L1_u, snap_tupE, tupS, snap7_int, snap7_bool, snap7_str, snap7_nils, snap7_agg]
      · rw [if_neg c7] at h
        rw [Bool.not_eq_true] at c7
        cases h11 : t_additiveref34_search p0 p1 p2 with
        | none => (rw [h11] at h; cases h)
        | some v12 =>
          simp only [h11] at h
          have f10 := t_additiveref34_search_ok h11
          cases h14 : fget v12 (isub .i64 (flen v12) 1) with
          | none => (rw [h14] at h; cases h)
          | some v15 =>
            simp only [h14] at h
            have f13 := iaddr_F (e := e_additiveref34_seen) h14
            by_cases c16 : (bnot (band (ieq v15.cell.X p2.X) (band (ieq v15.cell.Y p2.Y) true))) = true
            · rw [if_pos c16] at h
              cases h
              refine FC_pure (lf := lf19) rfl rfl rfl ?_
              simp only [lf19, lc19, c19_0, c19_1, c19_2, c19_3, c19_4, c19_5, c19_6, c19_7, c19_8, c19_9, c19_10, c19_12, c19_13, c19_14, c19_15, c19_16, c19_18]
              rcases tof v3 with a17 | a17
              · rcases tof (v6.getD false) with a18 | a18
                · rcases tof (ieq v15.cell.X p2.X) with a19 | a19
                  · rcases tof (ieq v15.cell.Y p2.Y) with a20 | a20
                    · simp [a17, a18, a19, a20] at c16
                    · simp (maxSteps := 4000000) [a17, a18, a19, a20, f1, f4, f10, f13, e_i64, e_sl_api_Row, e_sl_api_Run, e_additiveref34_seen, e_api_Cell, e_api_Region, e_api_Row, e_api_Run, ↓c19_L0_u, ↓c19_L1_u, snap_tupE, tupS, snap7_int, snap7_bool, snap7_str, snap7_nils, snap7_agg]
                  · simp (maxSteps := 4000000) [a17, a18, a19, f1, f4, f10, f13, e_i64, e_sl_api_Row, e_sl_api_Run, e_additiveref34_seen, e_api_Cell, e_api_Region, e_api_Row, e_api_Run, ↓c19_L0_u, ↓c19_L1_u, snap_tupE, tupS, snap7_int, snap7_bool, snap7_str, snap7_nils, snap7_agg]
                · simp [a17, a18] at c7
              · simp [a17] at c7
            · rw [if_neg c16] at h
              rw [Bool.not_eq_true] at c16
              cases h37 : loopT (t_additiveref34_Path_L0 v12) bigN ((FS.nil : (FS api_Cell)), (isub .i64 (flen v12) 1)) with
              | none => (rw [h37] at h; cases h)
              | some v38 =>
                simp only [h37] at h
                have f39 := t_additiveref34_Path_L0_ok h37
                simp only [t_additiveref34_Path_L0_st, t_additiveref34_Path_L0_out] at f39
                cases e41 : v38 with
                | nil =>
                  try simp only [e41, flen_nil] at h
                  simp only [e41, flen_nil, fcase_nil, fcase_lst] at f39
                  cases h66 : loopT (t_additiveref34_Path_L1 (FS.nil : (FS api_Cell))) bigN ((FS.nil : (FS api_Cell)), (isub .i64 0 1)) with
                  | none => (rw [h66] at h; cases h)
                  | some v67 =>
                    simp only [h66] at h
                    have f68 := t_additiveref34_Path_L1_ok h66
                    simp only [t_additiveref34_Path_L1_st, t_additiveref34_Path_L1_out] at f68
                    cases e70 : v67 with
                    | nil =>
                      try simp only [e70, flen_nil] at h
                      simp only [e70, flen_nil, fcase_nil, fcase_lst] at f68
                      cases h
                      refine FC_pure (lf := lf19) rfl rfl rfl ?_
                      simp only [lf19, lc19, c19_0, c19_1, c19_2, c19_3, c19_4, c19_5, c19_6, c19_7, c19_8, c19_9, c19_10, c19_12, c19_13, c19_14, c19_15, c19_16, c19_18]
                      rcases tof v3 with a71 | a71
                      · rcases tof (v6.getD false) with a72 | a72
                        · rcases tof (ieq v15.cell.X p2.X) with a73 | a73
                          · rcases tof (ieq v15.cell.Y p2.Y) with a74 | a74
                            · try simp only [a71, a72, a73, a74] at f39 f68
                              simp (maxSteps := 4000000) [a71, a72, a73, a74, f1, f4, f10, f13, f39, e41, f68, e70, e_i64, e_sl_api_Row, e_sl_api_Run, e_additiveref34_seen, e_api_Cell, e_api_Region, e_api_Row, e_api_Run, ↓c19_L0_u, ↓c19_L1_u, snap_tupE, tupS, snap7_int, snap7_bool, snap7_str, snap7_nils, snap7_agg]
                            · simp [a71, a72, a73, a74] at c16
                          · simp [a71, a72, a73] at c16
                        · simp [a71, a72] at c7
                      · simp [a71] at c7
                    | lst l69 =>
                      try simp only [e70] at h
                      simp only [e70, flen_nil, fcase_nil, fcase_lst] at f68
                      cases h
                      refine FC_pure (lf := lf19) rfl rfl rfl ?_
                      simp only [lf19, lc19, c19_0, c19_1, c19_2, c19_3, c19_4, c19_5, c19_6, c19_7, c19_8, c19_9, c19_10, c19_12, c19_13, c19_14, c19_15, c19_16, c19_18]
                      rcases tof v3 with a75 | a75
                      · rcases tof (v6.getD false) with a76 | a76
                        · rcases tof (ieq v15.cell.X p2.X) with a77 | a77
                          · rcases tof (ieq v15.cell.Y p2.Y) with a78 | a78
                            · try simp only [a75, a76, a77, a78] at f39 f68
                              simp (maxSteps := 4000000) [a75, a76, a77, a78, f1, f4, f10, f13, f39, e41, f68, e70, e_i64, e_sl_api_Row, e_sl_api_Run, e_additiveref34_seen, e_api_Cell, e_api_Region, e_api_Row, e_api_Run, ↓c19_L0_u, ↓c19_L1_u, snap_row7 (e := e_api_Cell) (el := 26) (fz := false), snap_tupE, tupS, snap7_int, snap7_bool, snap7_str, snap7_nils, snap7_agg]
                            · simp [a75, a76, a77, a78] at c16
                          · simp [a75, a76, a77] at c16
                        · simp [a75, a76] at c7
                      · simp [a75] at c7
                | lst l40 =>
                  try simp only [e41] at h
                  simp only [e41, flen_nil, fcase_nil, fcase_lst] at f39
                  cases h79 : loopT (t_additiveref34_Path_L1 (FS.lst l40)) bigN ((FS.nil : (FS api_Cell)), (isub .i64 (flen (FS.lst l40)) 1)) with
                  | none => (rw [h79] at h; cases h)
                  | some v80 =>
                    simp only [h79] at h
                    have f81 := t_additiveref34_Path_L1_ok h79
                    simp only [t_additiveref34_Path_L1_st, t_additiveref34_Path_L1_out] at f81
                    cases e83 : v80 with
                    | nil =>
                      try simp only [e83, flen_nil] at h
                      simp only [e83, flen_nil, fcase_nil, fcase_lst] at f81
                      cases h
                      refine FC_pure (lf := lf19) rfl rfl rfl ?_
                      simp only [lf19, lc19, c19_0, c19_1, c19_2, c19_3, c19_4, c19_5, c19_6, c19_7, c19_8, c19_9, c19_10, c19_12, c19_13, c19_14, c19_15, c19_16, c19_18]
                      rcases tof v3 with a84 | a84
                      · rcases tof (v6.getD false) with a85 | a85
                        · rcases tof (ieq v15.cell.X p2.X) with a86 | a86
                          · rcases tof (ieq v15.cell.Y p2.Y) with a87 | a87
                            · try simp only [a84, a85, a86, a87] at f39 f81
                              simp (maxSteps := 4000000) [a84, a85, a86, a87, f1, f4, f10, f13, f39, e41, f81, e83, e_i64, e_sl_api_Row, e_sl_api_Run, e_additiveref34_seen, e_api_Cell, e_api_Region, e_api_Row, e_api_Run, ↓c19_L0_u, ↓c19_L1_u, snap_tupE, tupS, snap7_int, snap7_bool, snap7_str, snap7_nils, snap7_agg]
                            · simp [a84, a85, a86, a87] at c16
                          · simp [a84, a85, a86] at c16
                        · simp [a84, a85] at c7
                      · simp [a84] at c7
                    | lst l82 =>
                      try simp only [e83] at h
                      simp only [e83, flen_nil, fcase_nil, fcase_lst] at f81
                      cases h
                      refine FC_pure (lf := lf19) rfl rfl rfl ?_
                      simp only [lf19, lc19, c19_0, c19_1, c19_2, c19_3, c19_4, c19_5, c19_6, c19_7, c19_8, c19_9, c19_10, c19_12, c19_13, c19_14, c19_15, c19_16, c19_18]
                      rcases tof v3 with a88 | a88
                      · rcases tof (v6.getD false) with a89 | a89
                        · rcases tof (ieq v15.cell.X p2.X) with a90 | a90
                          · rcases tof (ieq v15.cell.Y p2.Y) with a91 | a91
                            · try simp only [a88, a89, a90, a91] at f39 f81
                              simp (maxSteps := 4000000) [a88, a89, a90, a91, f1, f4, f10, f13, f39, e41, f81, e83, e_i64, e_sl_api_Row, e_sl_api_Run, e_additiveref34_seen, e_api_Cell, e_api_Region, e_api_Row, e_api_Run, ↓c19_L0_u, ↓c19_L1_u, snap_row7 (e := e_api_Cell) (el := 26) (fz := false), snap_tupE, tupS, snap7_int, snap7_bool, snap7_str, snap7_nils, snap7_agg]
                            · simp [a88, a89, a90, a91] at c16
                          · simp [a88, a89, a90] at c16
                        · simp [a88, a89] at c7
                      · simp [a88] at c7

/-! additivelaw34.cells -/
theorem c20_L0_u (Γ : Env) (ps : List Nat) (σ : St) : EC Γ ps 0 c20_L0 σ = EC Γ ps 0 (.seq (.seq (.reg false c20_4) (.cond (.t 14) .skip (.seq (.trim []) (.exit 0)))) (.seq (.blk 1 (.seq (.reg true c20_5) (.cond (.t 25) (.seq (.reg false c20_6) (.seq (.trim [4]) .ret)) .skip))) (.reg false c20_7))) σ := rfl
def t_additivelaw34_cells_L0 (k0 : (FS api_Cell)) (k1 : (FS api_Cell)) (s : Int) : Option (LR Int (Bool ⊕ Unit)) := match s with
 | s0 => (if (ilt s0 (flen k0)) = true then (match fget k0 s0 with
 | none => none
 | some v5 => (match fget k1 s0 with
 | none => none
 | some v8 => (if (bnot (band (ieq v5.X v8.X) (band (ieq v5.Y v8.Y) true))) = true then some (.dn (.inl false))
 else some (.nx (iadd .i64 s0 1)))))
 else some (.dn (.inr ())))
def t_additivelaw34_cells_L0_st (k0 : (FS api_Cell)) (k1 : (FS api_Cell)) (s : Int) : St := match s with
 | s0 => ⟨fr [(0, encF e_api_Cell k0), (1, encF e_api_Cell k1), (5, .int .i64 s0)], hl []⟩
def t_additivelaw34_cells_L0_out (k0 : (FS api_Cell)) (k1 : (FS api_Cell)) (x : (Bool ⊕ Unit)) : LE × St := match x with
 | .inl x => (.ret, ⟨fr [(4, .bool x)], hl []⟩)
 | .inr x => (.exit 0, ⟨fr [], hl []⟩)
theorem t_additivelaw34_cells_L0_ok {k0 : (FS api_Cell)} {k1 : (FS api_Cell)} {s : Int} {r : (Bool ⊕ Unit)} (h : loopT (t_additivelaw34_cells_L0 k0 k1) bigN s = some r) : LK env [] 0 [0, 1, 5] c20_L0 (some (t_additivelaw34_cells_L0_st k0 k1 s)) = some (t_additivelaw34_cells_L0_out k0 k1 r) := loop_walk (st := t_additivelaw34_cells_L0_st k0 k1) (out := t_additivelaw34_cells_L0_out k0 k1) (by
  clear h s r
  rintro s0 x h
  simp only [t_additivelaw34_cells_L0] at h
  by_cases c2 : (ilt s0 (flen k0)) = true
  · rw [if_pos c2] at h
    cases h4 : fget k0 s0 with
    | none => (rw [h4] at h; cases h)
    | some v5 =>
      simp only [h4] at h
      have f3 := iaddr_F (e := e_api_Cell) h4
      cases h7 : fget k1 s0 with
      | none => (rw [h7] at h; cases h)
      | some v8 =>
        simp only [h7] at h
        have f6 := iaddr_F (e := e_api_Cell) h7
        by_cases c9 : (bnot (band (ieq v5.X v8.X) (band (ieq v5.Y v8.Y) true))) = true
        · rw [if_pos c9] at h
          cases h
          show LK env [] 0 [0, 1, 5] c20_L0 (some (t_additivelaw34_cells_L0_st _ _ _)) = some (t_additivelaw34_cells_L0_out _ _ _)
          simp only [t_additivelaw34_cells_L0_st, t_additivelaw34_cells_L0_out]
          rw [LK_step]
          rcases tof (ieq v5.X v8.X) with a10 | a10
          · rcases tof (ieq v5.Y v8.Y) with a11 | a11
            · simp [c2, a10, a11] at c9
            · simp (maxSteps := 4000000) [c2, a10, a11, f3, f6, e_i64, e_sl_api_Row, e_sl_api_Run, e_additiveref34_seen, e_api_Cell, e_api_Region, e_api_Row, e_api_Run, ↓c20_L0_u, c20_0, c20_1, c20_2, c20_3, c20_4, c20_5, c20_6, c20_7, c20_9]
          · simp (maxSteps := 4000000) [c2, a10, f3, f6, e_i64, e_sl_api_Row, e_sl_api_Run, e_additiveref34_seen, e_api_Cell, e_api_Region, e_api_Row, e_api_Run, ↓c20_L0_u, c20_0, c20_1, c20_2, c20_3, c20_4, c20_5, c20_6, c20_7, c20_9]
        · rw [if_neg c9] at h
          rw [Bool.not_eq_true] at c9
          cases h
          show LK env [] 0 [0, 1, 5] c20_L0 (some (t_additivelaw34_cells_L0_st _ _ _)) = LK env [] 0 [0, 1, 5] c20_L0 (some (t_additivelaw34_cells_L0_st _ _ _))
          simp only [t_additivelaw34_cells_L0_st]
          rw [LK_step]
          rcases tof (ieq v5.X v8.X) with a12 | a12
          · rcases tof (ieq v5.Y v8.Y) with a13 | a13
            · simp (maxSteps := 4000000) [c2, a12, a13, f3, f6, e_i64, e_sl_api_Row, e_sl_api_Run, e_additiveref34_seen, e_api_Cell, e_api_Region, e_api_Row, e_api_Run, ↓c20_L0_u, c20_0, c20_1, c20_2, c20_3, c20_4, c20_5, c20_6, c20_7, c20_9]
            · simp [c2, a12, a13] at c9
          · simp [c2, a12] at c9
  · rw [if_neg c2] at h
    rw [Bool.not_eq_true] at c2
    cases h
    show LK env [] 0 [0, 1, 5] c20_L0 (some (t_additivelaw34_cells_L0_st _ _ _)) = some (t_additivelaw34_cells_L0_out _ _ _)
    simp only [t_additivelaw34_cells_L0_st, t_additivelaw34_cells_L0_out]
    rw [LK_step]
    simp (maxSteps := 4000000) [c2, e_i64, e_sl_api_Row, e_sl_api_Run, e_additiveref34_seen, e_api_Cell, e_api_Region, e_api_Row, e_api_Run, ↓c20_L0_u, c20_0, c20_1, c20_2, c20_3, c20_4, c20_5, c20_6, c20_7, c20_9]) bigN s r h
def t_additivelaw34_cells (p0 : (FS api_Cell)) (p1 : (FS api_Cell)) : Option Bool := (if (ine (flen p0) (flen p1)) = true then some false
 else (match loopT (t_additivelaw34_cells_L0 p0 p1) bigN 0 with
 | none => none
 | some v11 => (match v11 with
 | .inl v11x => some v11x
 | .inr v11x => some true)))
theorem t_additivelaw34_cells_ok {p0 : (FS api_Cell)} {p1 : (FS api_Cell)} {r : Bool} (h : t_additivelaw34_cells p0 p1 = some r) : FC env 20 [encF e_api_Cell p0, encF e_api_Cell p1] none = some (.bool r, fun _ => none) := by
  unfold t_additivelaw34_cells at h
  by_cases c1 : (ine (flen p0) (flen p1)) = true
  · rw [if_pos c1] at h
    cases h
    refine FC_pure (lf := lf20) rfl rfl rfl ?_
    simp only [lf20, lc20, c20_0, c20_1, c20_2, c20_3, c20_4, c20_5, c20_6, c20_7, c20_9]
    simp (maxSteps := 4000000) [c1, e_i64, e_sl_api_Row, e_sl_api_Run, e_additiveref34_seen, e_api_Cell, e_api_Region, e_api_Row, e_api_Run, ↓c20_L0_u]
  · rw [if_neg c1] at h
    rw [Bool.not_eq_true] at c1
    cases h14 : loopT (t_additivelaw34_cells_L0 p0 p1) bigN 0 with
    | none => (rw [h14] at h; cases h)
    | some v15 =>
      simp only [h14] at h
      have f16 := t_additivelaw34_cells_L0_ok h14
      cases v15 with
      | inl v15x =>
        try simp only at h
        simp only [t_additivelaw34_cells_L0_st, t_additivelaw34_cells_L0_out] at f16
        try simp only [fcase_nil, fcase_lst, fcase_fsnoc, fcase_fapp, fcase_fset, fcase_frep, fcase_flit, fcase_flst] at f16
        cases h
        refine FC_pure (lf := lf20) rfl rfl rfl ?_
        simp only [lf20, lc20, c20_0, c20_1, c20_2, c20_3, c20_4, c20_5, c20_6, c20_7, c20_9]
        try simp only [c1] at f16
        simp (maxSteps := 4000000) [c1, f16, e_i64, e_sl_api_Row, e_sl_api_Run, e_additiveref34_seen, e_api_Cell, e_api_Region, e_api_Row, e_api_Run, ↓c20_L0_u]
      | inr v15x =>
        try simp only at h
        simp only [t_additivelaw34_cells_L0_st, t_additivelaw34_cells_L0_out] at f16
        try simp only [fcase_nil, fcase_lst, fcase_fsnoc, fcase_fapp, fcase_fset, fcase_frep, fcase_flit, fcase_flst] at f16
        cases h
        refine FC_pure (lf := lf20) rfl rfl rfl ?_
        simp only [lf20, lc20, c20_0, c20_1, c20_2, c20_3, c20_4, c20_5, c20_6, c20_7, c20_9]
        try simp only [c1] at f16
        simp (maxSteps := 4000000) [c1, f16, e_i64, e_sl_api_Row, e_sl_api_Run, e_additiveref34_seen, e_api_Cell, e_api_Region, e_api_Row, e_api_Run, ↓c20_L0_u]

/-! comb.Distance -/
def t_comb_Distance (p0 : api_Region) (p1 : api_Cell) (p2 : api_Cell) : Option Int := (match t_comb_Path p0 p1 p2 with
 | none => none
 | some v3 => (if (bnot v3.2) = true then some (-1)
 else some (isub .i64 (flen v3.1) 1)))
theorem t_comb_Distance_ok {p0 : api_Region} {p1 : api_Cell} {p2 : api_Cell} {r : Int} (h : t_comb_Distance p0 p1 p2 = some r) : FC env 21 [.agg [encF e_api_Row p0.Rows], .agg [.int .i64 p1.X, .int .i64 p1.Y], .agg [.int .i64 p2.X, .int .i64 p2.Y]] none = some (.int .i64 r, fun _ => none) := by
  unfold t_comb_Distance at h
  cases h2 : t_comb_Path p0 p1 p2 with
  | none => (rw [h2] at h; cases h)
  | some v3 =>
    simp only [h2] at h
    have f1 := t_comb_Path_ok h2
    by_cases c4 : (bnot v3.2) = true
    · rw [if_pos c4] at h
      cases h
      refine FC_pure (lf := lf21) rfl rfl rfl ?_
      simp only [lf21, lc21, c21_0, c21_1, c21_2, c21_3, c21_4]
      rcases tof v3.2 with a5 | a5
      · simp [a5] at c4
      · simp (maxSteps := 4000000) [a5, f1, e_i64, e_sl_api_Row, e_sl_api_Run, e_additiveref34_seen, e_api_Cell, e_api_Region, e_api_Row, e_api_Run]
    · rw [if_neg c4] at h
      rw [Bool.not_eq_true] at c4
      cases h
      refine FC_pure (lf := lf21) rfl rfl rfl ?_
      simp only [lf21, lc21, c21_0, c21_1, c21_2, c21_3, c21_4]
      rcases tof v3.2 with a6 | a6
      · simp (maxSteps := 4000000) [a6, f1, e_i64, e_sl_api_Row, e_sl_api_Run, e_additiveref34_seen, e_api_Cell, e_api_Region, e_api_Row, e_api_Run]
      · simp [a6] at c4

/-! additiveref34.Distance -/
def t_additiveref34_Distance (p0 : api_Region) (p1 : api_Cell) (p2 : api_Cell) : Option Int := (match t_additiveref34_Path p0 p1 p2 with
 | none => none
 | some v3 => (if (bnot v3.2) = true then some (-1)
 else some (isub .i64 (flen v3.1) 1)))
theorem t_additiveref34_Distance_ok {p0 : api_Region} {p1 : api_Cell} {p2 : api_Cell} {r : Int} (h : t_additiveref34_Distance p0 p1 p2 = some r) : FC env 22 [.agg [encF e_api_Row p0.Rows], .agg [.int .i64 p1.X, .int .i64 p1.Y], .agg [.int .i64 p2.X, .int .i64 p2.Y]] none = some (.int .i64 r, fun _ => none) := by
  unfold t_additiveref34_Distance at h
  cases h2 : t_additiveref34_Path p0 p1 p2 with
  | none => (rw [h2] at h; cases h)
  | some v3 =>
    simp only [h2] at h
    have f1 := t_additiveref34_Path_ok h2
    by_cases c4 : (bnot v3.2) = true
    · rw [if_pos c4] at h
      cases h
      refine FC_pure (lf := lf22) rfl rfl rfl ?_
      simp only [lf22, lc22, c22_0, c22_1, c22_2, c22_3, c22_4]
      rcases tof v3.2 with a5 | a5
      · simp [a5] at c4
      · simp (maxSteps := 4000000) [a5, f1, e_i64, e_sl_api_Row, e_sl_api_Run, e_additiveref34_seen, e_api_Cell, e_api_Region, e_api_Row, e_api_Run]
    · rw [if_neg c4] at h
      rw [Bool.not_eq_true] at c4
      cases h
      refine FC_pure (lf := lf22) rfl rfl rfl ?_
      simp only [lf22, lc22, c22_0, c22_1, c22_2, c22_3, c22_4]
      rcases tof v3.2 with a6 | a6
      · simp (maxSteps := 4000000) [a6, f1, e_i64, e_sl_api_Row, e_sl_api_Run, e_additiveref34_seen, e_api_Cell, e_api_Region, e_api_Row, e_api_Run]
      · simp [a6] at c4

/-! additivelaw34.CombPaths -/
def t_additivelaw34_CombPaths (p0 : api_Region) (p1 : api_Cell) (p2 : api_Cell) : Option Bool := (match t_additivelaw18_Small p0 with
 | none => none
 | some v3 => (if (bnot v3) = true then some u_additivelaw34_awake
 else (match t_comb_Path p0 p1 p2 with
 | none => none
 | some v8 => (match t_additiveref34_Path p0 p1 p2 with
 | none => none
 | some v11 => (match t_additivelaw34_cells v8.1 v11.1 with
 | none => none
 | some v14 => (match gOpt (band v14 (band (beqB v8.2 v11.2) true)) (t_comb_Distance p0 p1 p2) with
 | none => none
 | some v17 => (match gOpt (band v14 (band (beqB v8.2 v11.2) true)) (t_additiveref34_Distance p0 p1 p2) with
 | none => none
 | some v20 => some (band (band (band v14 (band (beqB v8.2 v11.2) true)) (ieq (v17.getD 0) (v20.getD 0))) u_additivelaw34_awake))))))))
theorem t_additivelaw34_CombPaths_ok {p0 : api_Region} {p1 : api_Cell} {p2 : api_Cell} {r : Bool} (h : t_additivelaw34_CombPaths p0 p1 p2 = some r) : FC env 3 [.agg [encF e_api_Row p0.Rows], .agg [.int .i64 p1.X, .int .i64 p1.Y], .agg [.int .i64 p2.X, .int .i64 p2.Y]] none = some (.bool r, fun _ => none) := by
  unfold t_additivelaw34_CombPaths at h
  cases h2 : t_additivelaw18_Small p0 with
  | none => (rw [h2] at h; cases h)
  | some v3 =>
    simp only [h2] at h
    have f1 := t_additivelaw18_Small_ok h2
    by_cases c4 : (bnot v3) = true
    · rw [if_pos c4] at h
      have f5 := u_additivelaw34_awake_ok 
      cases h
      refine FC_pure (lf := lf3) rfl rfl rfl ?_
      simp only [lf3, lc3, c3_0, c3_1, c3_2, c3_3, c3_4, c3_5]
      rcases tof v3 with a6 | a6
      · simp [a6] at c4
      · simp (maxSteps := 4000000) [a6, f1, f5, e_i64, e_sl_api_Row, e_sl_api_Run, e_additiveref34_seen, e_api_Cell, e_api_Region, e_api_Row, e_api_Run]
    · rw [if_neg c4] at h
      rw [Bool.not_eq_true] at c4
      cases h8 : t_comb_Path p0 p1 p2 with
      | none => (rw [h8] at h; cases h)
      | some v9 =>
        simp only [h8] at h
        have f7 := t_comb_Path_ok h8
        cases h11 : t_additiveref34_Path p0 p1 p2 with
        | none => (rw [h11] at h; cases h)
        | some v12 =>
          simp only [h11] at h
          have f10 := t_additiveref34_Path_ok h11
          cases h14 : t_additivelaw34_cells v9.1 v12.1 with
          | none => (rw [h14] at h; cases h)
          | some v15 =>
            simp only [h14] at h
            have f13 := t_additivelaw34_cells_ok h14
            cases h17 : gOpt (band v15 (band (beqB v9.2 v12.2) true)) (t_comb_Distance p0 p1 p2) with
            | none => (rw [h17] at h; cases h)
            | some v18 =>
              simp only [h17] at h
              have f16 := fun (q0 : (band v15 (band (beqB v9.2 v12.2) true)) = true) => t_comb_Distance_ok (gOpt_getD 0 h17 q0)
              cases h20 : gOpt (band v15 (band (beqB v9.2 v12.2) true)) (t_additiveref34_Distance p0 p1 p2) with
              | none => (rw [h20] at h; cases h)
              | some v21 =>
                simp only [h20] at h
                have f19 := fun (q0 : (band v15 (band (beqB v9.2 v12.2) true)) = true) => t_additiveref34_Distance_ok (gOpt_getD 0 h20 q0)
                have f22 := u_additivelaw34_awake_ok 
                cases h
                refine FC_pure (lf := lf3) rfl rfl rfl ?_
                simp only [lf3, lc3, c3_0, c3_1, c3_2, c3_3, c3_4, c3_5]
                rcases tof v3 with a23 | a23
                · rcases tof v15 with a24 | a24
                  · rcases tof (beqB v9.2 v12.2) with a25 | a25
                    · rcases tof (ieq (v18.getD 0) (v21.getD 0)) with a26 | a26
                      · simp (maxSteps := 4000000) [a23, a24, a25, a26, f1, f7, f10, f13, f16, f19, f22, e_i64, e_sl_api_Row, e_sl_api_Run, e_additiveref34_seen, e_api_Cell, e_api_Region, e_api_Row, e_api_Run]
                      · simp (maxSteps := 4000000) [a23, a24, a25, a26, f1, f7, f10, f13, f16, f19, f22, e_i64, e_sl_api_Row, e_sl_api_Run, e_additiveref34_seen, e_api_Cell, e_api_Region, e_api_Row, e_api_Run]
                    · simp (maxSteps := 4000000) [a23, a24, a25, f1, f7, f10, f13, f16, f19, f22, e_i64, e_sl_api_Row, e_sl_api_Run, e_additiveref34_seen, e_api_Cell, e_api_Region, e_api_Row, e_api_Run]
                  · simp (maxSteps := 4000000) [a23, a24, f1, f7, f10, f13, f16, f19, f22, e_i64, e_sl_api_Row, e_sl_api_Run, e_additiveref34_seen, e_api_Cell, e_api_Region, e_api_Row, e_api_Run]
                · simp [a23] at c4

/-! additiveref18.Cells -/
theorem c25_L0_u (Γ : Env) (ps : List Nat) (σ : St) : EC Γ ps 0 c25_L0 σ = EC Γ ps 0 (.seq (.seq (.reg false c25_9) (.cond (.t 50) .skip (.seq (.trim [1, 3, 4, 5]) (.exit 4)))) (.seq (.blk 5 (.reg false c25_10)) (.reg false c25_11))) σ := rfl
theorem c25_L1_u (Γ : Env) (ps : List Nat) (σ : St) : EC Γ ps 0 c25_L1 σ = EC Γ ps 0 (.seq (.seq (.reg false c25_7) (.cond (.t 26) .skip (.seq (.trim [1, 3, 4]) (.exit 2)))) (.seq (.blk 3 (.seq (.reg false c25_8) (.blk 4 (.loop [1, 3, 4, 5, 6] c25_L0)))) (.reg false c25_13))) σ := rfl
theorem c25_L2_u (Γ : Env) (ps : List Nat) (σ : St) : EC Γ ps 0 c25_L2 σ = EC Γ ps 0 (.seq (.seq (.reg false c25_5) (.cond (.t 15) .skip (.seq (.trim [3]) (.exit 0)))) (.seq (.blk 1 (.seq (.reg false c25_6) (.blk 2 (.loop [1, 3, 4, 5] c25_L1)))) (.reg false c25_15))) σ := rfl
def t_additiveref18_Cells_L0 (k0 : api_Region) (k1 : Int) (k2 : Int) (s : ((FS api_Cell) × Int)) : Option (LR ((FS api_Cell) × Int) (FS api_Cell)) := match s with
 | (s0, s1) => (match fget k0.Rows k1 with
 | none => none
 | some v16 => (match fget v16.Runs k2 with
 | none => none
 | some v19 => (if (ilt s1 v19.To) = true then (if fits 16 ((flen s0) + 1) = true then some (.nx ((fsnoc s0 (⟨s1, v16.Y⟩ : api_Cell)), (iadd .i64 s1 1))) else none)
 else some (.dn s0))))
def t_additiveref18_Cells_L0_st (k0 : api_Region) (k1 : Int) (k2 : Int) (s : ((FS api_Cell) × Int)) : St := match s with
 | (s0, s1) => (fcase s0 (⟨fr [(1, .ptr 1 0 0), (3, .nils), (4, .int .i64 k1), (5, .int .i64 k2), (6, .int .i64 s1)], hl [(1, .box 0 [encF e_api_Row k0.Rows])]⟩)
  (fun l0 => ⟨fr [(1, .ptr 1 0 0), (3, .arr 3 0 0 l0.l.length), (4, .int .i64 k1), (5, .int .i64 k2), (6, .int .i64 s1)], hl [(1, .box 0 [encF e_api_Row k0.Rows]), (3, .arr 0 2 26 (cellsE e_api_Cell l0.l) false)]⟩))
def t_additiveref18_Cells_L0_out (k0 : api_Region) (k1 : Int) (k2 : Int) (x : (FS api_Cell)) : LE × St := (fcase x (.exit 4, ⟨fr [(1, .ptr 1 0 0), (3, .nils), (4, .int .i64 k1), (5, .int .i64 k2)], hl [(1, .box 0 [encF e_api_Row k0.Rows])]⟩)
  (fun l0 => (.exit 4, ⟨fr [(1, .ptr 1 0 0), (3, .arr 3 0 0 l0.l.length), (4, .int .i64 k1), (5, .int .i64 k2)], hl [(1, .box 0 [encF e_api_Row k0.Rows]), (3, .arr 0 2 26 (cellsE e_api_Cell l0.l) false)]⟩)))
theorem t_additiveref18_Cells_L0_ok {k0 : api_Region} {k1 : Int} {k2 : Int} {s : ((FS api_Cell) × Int)} {r : (FS api_Cell)} (h : loopT (t_additiveref18_Cells_L0 k0 k1 k2) bigN s = some r) : LK env [] 0 [1, 3, 4, 5, 6] c25_L0 (some (t_additiveref18_Cells_L0_st k0 k1 k2 s)) = some (t_additiveref18_Cells_L0_out k0 k1 k2 r) := loop_walk (st := t_additiveref18_Cells_L0_st k0 k1 k2) (out := t_additiveref18_Cells_L0_out k0 k1 k2) (by
  clear h s r
  rintro ⟨s0, s1⟩ x h
  simp only [t_additiveref18_Cells_L0] at h
  cases e20 : s0 with
  | nil =>
    try simp only [e20, flen_nil] at h
    cases h22 : fget k0.Rows k1 with
    | none => (rw [h22] at h; cases h)
    | some v23 =>
      simp only [h22] at h
      have f21 := iaddr_F (e := e_api_Row) h22
      cases h25 : fget v23.Runs k2 with
      | none => (rw [h25] at h; cases h)
      | some v26 =>
        simp only [h25] at h
        have f24 := iaddr_F (e := e_api_Run) h25
        by_cases c27 : (ilt s1 v26.To) = true
        · rw [if_pos c27] at h
          by_cases h30 : fits 16 (0 + 1) = true
          · rw [if_pos h30] at h
            have f29 := fun H g0 hg y => @app_nil _ _ e_api_Cell _ (⟨s1, v23.Y⟩ : api_Cell) 16 h30 (by decide) H g0 26 y hg
            simp only [e_api_Cell] at f29
            cases h
            show LK env [] 0 [1, 3, 4, 5, 6] c25_L0 (some (t_additiveref18_Cells_L0_st _ _ _ _)) = LK env [] 0 [1, 3, 4, 5, 6] c25_L0 (some (t_additiveref18_Cells_L0_st _ _ _ _))
            simp only [t_additiveref18_Cells_L0_st, e20]
            rw [LK_step]
            simp (maxSteps := 4000000) [c27, e20, f21, f24, f29, e_i64, e_sl_api_Row, e_sl_api_Run, e_additiveref34_seen, e_api_Cell, e_api_Region, e_api_Row, e_api_Run, ↓c25_L0_u, ↓c25_L1_u, ↓c25_L2_u, c25_0, c25_1, c25_2, c25_3, c25_4, c25_5, c25_6, c25_7, c25_8, c25_9, c25_10, c25_11, c25_13, c25_15, c25_17]
          · rw [if_neg h30] at h; cases h
        · rw [if_neg c27] at h
          rw [Bool.not_eq_true] at c27
          cases h
          show LK env [] 0 [1, 3, 4, 5, 6] c25_L0 (some (t_additiveref18_Cells_L0_st _ _ _ _)) = some (t_additiveref18_Cells_L0_out _ _ _ _)
          simp only [t_additiveref18_Cells_L0_st, t_additiveref18_Cells_L0_out, e20]
          rw [LK_step]
          simp (maxSteps := 4000000) [c27, e20, f21, f24, e_i64, e_sl_api_Row, e_sl_api_Run, e_additiveref34_seen, e_api_Cell, e_api_Region, e_api_Row, e_api_Run, ↓c25_L0_u, ↓c25_L1_u, ↓c25_L2_u, c25_0, c25_1, c25_2, c25_3, c25_4, c25_5, c25_6, c25_7, c25_8, c25_9, c25_10, c25_11, c25_13, c25_15, c25_17]
  | lst l19 =>
    try simp only [e20] at h
    cases h32 : fget k0.Rows k1 with
    | none => (rw [h32] at h; cases h)
    | some v33 =>
      simp only [h32] at h
      have f31 := iaddr_F (e := e_api_Row) h32
      cases h35 : fget v33.Runs k2 with
      | none => (rw [h35] at h; cases h)
      | some v36 =>
        simp only [h35] at h
        have f34 := iaddr_F (e := e_api_Run) h35
        by_cases c37 : (ilt s1 v36.To) = true
        · rw [if_pos c37] at h
          by_cases h40 : fits 16 ((flen (FS.lst l19)) + 1) = true
          · rw [if_pos h40] at h
            have f39 := fun g0 H y => @app_row1 _ _ e_api_Cell _ (FS.lst l19) (⟨s1, v33.Y⟩ : api_Cell) 16 h40 (by decide) g0 H 3 0 26 y
            simp only [e_api_Cell] at f39
            cases h
            show LK env [] 0 [1, 3, 4, 5, 6] c25_L0 (some (t_additiveref18_Cells_L0_st _ _ _ _)) = LK env [] 0 [1, 3, 4, 5, 6] c25_L0 (some (t_additiveref18_Cells_L0_st _ _ _ _))
            simp only [t_additiveref18_Cells_L0_st, e20]
            rw [LK_step]
            simp (maxSteps := 4000000) [c37, e20, f31, f34, f39, e_i64, e_sl_api_Row, e_sl_api_Run, e_additiveref34_seen, e_api_Cell, e_api_Region, e_api_Row, e_api_Run, ↓c25_L0_u, ↓c25_L1_u, ↓c25_L2_u, c25_0, c25_1, c25_2, c25_3, c25_4, c25_5, c25_6, c25_7, c25_8, c25_9, c25_10, c25_11, c25_13, c25_15, c25_17]
          · rw [if_neg h40] at h; cases h
        · rw [if_neg c37] at h
          rw [Bool.not_eq_true] at c37
          cases h
          show LK env [] 0 [1, 3, 4, 5, 6] c25_L0 (some (t_additiveref18_Cells_L0_st _ _ _ _)) = some (t_additiveref18_Cells_L0_out _ _ _ _)
          simp only [t_additiveref18_Cells_L0_st, t_additiveref18_Cells_L0_out, e20]
          rw [LK_step]
          simp (maxSteps := 4000000) [c37, e20, f31, f34, e_i64, e_sl_api_Row, e_sl_api_Run, e_additiveref34_seen, e_api_Cell, e_api_Region, e_api_Row, e_api_Run, ↓c25_L0_u, ↓c25_L1_u, ↓c25_L2_u, c25_0, c25_1, c25_2, c25_3, c25_4, c25_5, c25_6, c25_7, c25_8, c25_9, c25_10, c25_11, c25_13, c25_15, c25_17]) bigN s r h
def t_additiveref18_Cells_L1 (k0 : api_Region) (k1 : Int) (s : ((FS api_Cell) × Int)) : Option (LR ((FS api_Cell) × Int) (FS api_Cell)) := match s with
 | (s0, s1) => (match fget k0.Rows k1 with
 | none => none
 | some v8 => (if (ilt s1 (flen v8.Runs)) = true then (match fget v8.Runs s1 with
 | none => none
 | some v13 => (match loopT (t_additiveref18_Cells_L0 k0 k1 s1) bigN (s0, v13.From) with
 | none => none
 | some v25 => some (.nx (v25, (iadd .i64 s1 1)))))
 else some (.dn s0)))
def t_additiveref18_Cells_L1_st (k0 : api_Region) (k1 : Int) (s : ((FS api_Cell) × Int)) : St := match s with
 | (s0, s1) => (fcase s0 (⟨fr [(1, .ptr 1 0 0), (3, .nils), (4, .int .i64 k1), (5, .int .i64 s1)], hl [(1, .box 0 [encF e_api_Row k0.Rows])]⟩)
  (fun l0 => ⟨fr [(1, .ptr 1 0 0), (3, .arr 3 0 0 l0.l.length), (4, .int .i64 k1), (5, .int .i64 s1)], hl [(1, .box 0 [encF e_api_Row k0.Rows]), (3, .arr 0 2 26 (cellsE e_api_Cell l0.l) false)]⟩))
def t_additiveref18_Cells_L1_out (k0 : api_Region) (k1 : Int) (x : (FS api_Cell)) : LE × St := (fcase x (.exit 2, ⟨fr [(1, .ptr 1 0 0), (3, .nils), (4, .int .i64 k1)], hl [(1, .box 0 [encF e_api_Row k0.Rows])]⟩)
  (fun l0 => (.exit 2, ⟨fr [(1, .ptr 1 0 0), (3, .arr 3 0 0 l0.l.length), (4, .int .i64 k1)], hl [(1, .box 0 [encF e_api_Row k0.Rows]), (3, .arr 0 2 26 (cellsE e_api_Cell l0.l) false)]⟩)))
theorem t_additiveref18_Cells_L1_ok {k0 : api_Region} {k1 : Int} {s : ((FS api_Cell) × Int)} {r : (FS api_Cell)} (h : loopT (t_additiveref18_Cells_L1 k0 k1) bigN s = some r) : LK env [] 0 [1, 3, 4, 5] c25_L1 (some (t_additiveref18_Cells_L1_st k0 k1 s)) = some (t_additiveref18_Cells_L1_out k0 k1 r) := loop_walk (st := t_additiveref18_Cells_L1_st k0 k1) (out := t_additiveref18_Cells_L1_out k0 k1) (by
  clear h s r
  rintro ⟨s0, s1⟩ x h
  simp only [t_additiveref18_Cells_L1] at h
  cases e10 : s0 with
  | nil =>
    try simp only [e10, flen_nil] at h
    cases h12 : fget k0.Rows k1 with
    | none => (rw [h12] at h; cases h)
    | some v13 =>
      simp only [h12] at h
      have f11 := iaddr_F (e := e_api_Row) h12
      by_cases c14 : (ilt s1 (flen v13.Runs)) = true
      · rw [if_pos c14] at h
        cases h17 : fget v13.Runs s1 with
        | none => (rw [h17] at h; cases h)
        | some v18 =>
          simp only [h17] at h
          have f16 := iaddr_F (e := e_api_Run) h17
          cases h41 : loopT (t_additiveref18_Cells_L0 k0 k1 s1) bigN ((FS.nil : (FS api_Cell)), v18.From) with
          | none => (rw [h41] at h; cases h)
          | some v42 =>
            simp only [h41] at h
            have f43 := t_additiveref18_Cells_L0_ok h41
            simp only [t_additiveref18_Cells_L0_st, t_additiveref18_Cells_L0_out] at f43
            cases e45 : v42 with
            | nil =>
              try simp only [e45, flen_nil] at h
              simp only [e45, flen_nil, fcase_nil, fcase_lst] at f43
              cases h
              show LK env [] 0 [1, 3, 4, 5] c25_L1 (some (t_additiveref18_Cells_L1_st _ _ _)) = LK env [] 0 [1, 3, 4, 5] c25_L1 (some (t_additiveref18_Cells_L1_st _ _ _))
              simp only [t_additiveref18_Cells_L1_st, e10]
              rw [LK_step]
              try simp only [c14] at f43
              simp (maxSteps := 4000000) [c14, e10, f11, f16, f43, e45, e_i64, e_sl_api_Row, e_sl_api_Run, e_additiveref34_seen, e_api_Cell, e_api_Region, e_api_Row, e_api_Run, ↓c25_L0_u, ↓c25_L1_u, ↓c25_L2_u, c25_0, c25_1, c25_2, c25_3, c25_4, c25_5, c25_6, c25_7, c25_8, c25_9, c25_10, c25_11, c25_13, c25_15, c25_17]
            | lst l44 =>
              try simp only [e45] at h
              simp only [e45, flen_nil, fcase_nil, fcase_lst] at f43
              cases h
              show LK env [] 0 [1, 3, 4, 5] c25_L1 (some (t_additiveref18_Cells_L1_st _ _ _)) = LK env [] 0 [1, 3, 4, 5] c25_L1 (some (t_additiveref18_Cells_L1_st _ _ _))
              simp only [t_additiveref18_Cells_L1_st, e10]
              rw [LK_step]
              try simp only [c14] at f43
              simp (maxSteps := 4000000) [c14, e10, f11, f16, f43, e45, e_i64, e_sl_api_Row, e_sl_api_Run, e_additiveref34_seen, e_api_Cell, e_api_Region, e_api_Row, e_api_Run, ↓c25_L0_u, ↓c25_L1_u, ↓c25_L2_u, c25_0, c25_1, c25_2, c25_3, c25_4, c25_5, c25_6, c25_7, c25_8, c25_9, c25_10, c25_11, c25_13, c25_15, c25_17]
      · rw [if_neg c14] at h
        rw [Bool.not_eq_true] at c14
        cases h
        show LK env [] 0 [1, 3, 4, 5] c25_L1 (some (t_additiveref18_Cells_L1_st _ _ _)) = some (t_additiveref18_Cells_L1_out _ _ _)
        simp only [t_additiveref18_Cells_L1_st, t_additiveref18_Cells_L1_out, e10]
        rw [LK_step]
        simp (maxSteps := 4000000) [c14, e10, f11, e_i64, e_sl_api_Row, e_sl_api_Run, e_additiveref34_seen, e_api_Cell, e_api_Region, e_api_Row, e_api_Run, ↓c25_L0_u, ↓c25_L1_u, ↓c25_L2_u, c25_0, c25_1, c25_2, c25_3, c25_4, c25_5, c25_6, c25_7, c25_8, c25_9, c25_10, c25_11, c25_13, c25_15, c25_17]
  | lst l9 =>
    try simp only [e10] at h
    cases h47 : fget k0.Rows k1 with
    | none => (rw [h47] at h; cases h)
    | some v48 =>
      simp only [h47] at h
      have f46 := iaddr_F (e := e_api_Row) h47
      by_cases c49 : (ilt s1 (flen v48.Runs)) = true
      · rw [if_pos c49] at h
        cases h52 : fget v48.Runs s1 with
        | none => (rw [h52] at h; cases h)
        | some v53 =>
          simp only [h52] at h
          have f51 := iaddr_F (e := e_api_Run) h52
          cases h54 : loopT (t_additiveref18_Cells_L0 k0 k1 s1) bigN ((FS.lst l9), v53.From) with
          | none => (rw [h54] at h; cases h)
          | some v55 =>
            simp only [h54] at h
            have f56 := t_additiveref18_Cells_L0_ok h54
            simp only [t_additiveref18_Cells_L0_st, t_additiveref18_Cells_L0_out] at f56
            cases e58 : v55 with
            | nil =>
              try simp only [e58, flen_nil] at h
              simp only [e58, flen_nil, fcase_nil, fcase_lst] at f56
              cases h
              show LK env [] 0 [1, 3, 4, 5] c25_L1 (some (t_additiveref18_Cells_L1_st _ _ _)) = LK env [] 0 [1, 3, 4, 5] c25_L1 (some (t_additiveref18_Cells_L1_st _ _ _))
              simp only [t_additiveref18_Cells_L1_st, e10]
              rw [LK_step]
              try simp only [c49] at f56
              simp (maxSteps := 4000000) [c49, e10, f46, f51, f56, e58, e_i64, e_sl_api_Row, e_sl_api_Run, e_additiveref34_seen, e_api_Cell, e_api_Region, e_api_Row, e_api_Run, ↓c25_L0_u, ↓c25_L1_u, ↓c25_L2_u, c25_0, c25_1, c25_2, c25_3, c25_4, c25_5, c25_6, c25_7, c25_8, c25_9, c25_10, c25_11, c25_13, c25_15, c25_17]
            | lst l57 =>
              try simp only [e58] at h
              simp only [e58, flen_nil, fcase_nil, fcase_lst] at f56
              cases h
              show LK env [] 0 [1, 3, 4, 5] c25_L1 (some (t_additiveref18_Cells_L1_st _ _ _)) = LK env [] 0 [1, 3, 4, 5] c25_L1 (some (t_additiveref18_Cells_L1_st _ _ _))
              simp only [t_additiveref18_Cells_L1_st, e10]
              rw [LK_step]
              try simp only [c49] at f56
              simp (maxSteps := 4000000) [c49, e10, f46, f51, f56, e58, e_i64, e_sl_api_Row, e_sl_api_Run, e_additiveref34_seen, e_api_Cell, e_api_Region, e_api_Row, e_api_Run, ↓c25_L0_u, ↓c25_L1_u, ↓c25_L2_u, c25_0, c25_1, c25_2, c25_3, c25_4, c25_5, c25_6, c25_7, c25_8, c25_9, c25_10, c25_11, c25_13, c25_15, c25_17]
      · rw [if_neg c49] at h
        rw [Bool.not_eq_true] at c49
        cases h
        show LK env [] 0 [1, 3, 4, 5] c25_L1 (some (t_additiveref18_Cells_L1_st _ _ _)) = some (t_additiveref18_Cells_L1_out _ _ _)
        simp only [t_additiveref18_Cells_L1_st, t_additiveref18_Cells_L1_out, e10]
        rw [LK_step]
        simp (maxSteps := 4000000) [c49, e10, f46, e_i64, e_sl_api_Row, e_sl_api_Run, e_additiveref34_seen, e_api_Cell, e_api_Region, e_api_Row, e_api_Run, ↓c25_L0_u, ↓c25_L1_u, ↓c25_L2_u, c25_0, c25_1, c25_2, c25_3, c25_4, c25_5, c25_6, c25_7, c25_8, c25_9, c25_10, c25_11, c25_13, c25_15, c25_17]) bigN s r h
def t_additiveref18_Cells_L2 (k0 : api_Region) (s : ((FS api_Cell) × Int)) : Option (LR ((FS api_Cell) × Int) (FS api_Cell)) := match s with
 | (s0, s1) => (if (ilt s1 (flen k0.Rows)) = true then (match loopT (t_additiveref18_Cells_L1 k0 s1) bigN (s0, 0) with
 | none => none
 | some v28 => some (.nx (v28, (iadd .i64 s1 1))))
 else some (.dn s0))
def t_additiveref18_Cells_L2_st (k0 : api_Region) (s : ((FS api_Cell) × Int)) : St := match s with
 | (s0, s1) => (fcase s0 (⟨fr [(1, .ptr 1 0 0), (3, .nils), (4, .int .i64 s1)], hl [(1, .box 0 [encF e_api_Row k0.Rows])]⟩)
  (fun l0 => ⟨fr [(1, .ptr 1 0 0), (3, .arr 3 0 0 l0.l.length), (4, .int .i64 s1)], hl [(1, .box 0 [encF e_api_Row k0.Rows]), (3, .arr 0 2 26 (cellsE e_api_Cell l0.l) false)]⟩))
def t_additiveref18_Cells_L2_out (k0 : api_Region) (x : (FS api_Cell)) : LE × St := (fcase x (.exit 0, ⟨fr [(3, .nils)], hl []⟩)
  (fun l0 => (.exit 0, ⟨fr [(3, .arr 3 0 0 l0.l.length)], hl [(3, .arr 0 2 26 (cellsE e_api_Cell l0.l) false)]⟩)))
theorem t_additiveref18_Cells_L2_ok {k0 : api_Region} {s : ((FS api_Cell) × Int)} {r : (FS api_Cell)} (h : loopT (t_additiveref18_Cells_L2 k0) bigN s = some r) : LK env [] 0 [1, 3, 4] c25_L2 (some (t_additiveref18_Cells_L2_st k0 s)) = some (t_additiveref18_Cells_L2_out k0 r) := loop_walk (st := t_additiveref18_Cells_L2_st k0) (out := t_additiveref18_Cells_L2_out k0) (by
  clear h s r
  rintro ⟨s0, s1⟩ x h
  simp only [t_additiveref18_Cells_L2] at h
  cases e7 : s0 with
  | nil =>
    try simp only [e7, flen_nil] at h
    by_cases c8 : (ilt s1 (flen k0.Rows)) = true
    · rw [if_pos c8] at h
      cases h59 : loopT (t_additiveref18_Cells_L1 k0 s1) bigN ((FS.nil : (FS api_Cell)), 0) with
      | none => (rw [h59] at h; cases h)
      | some v60 =>
        simp only [h59] at h
        have f61 := t_additiveref18_Cells_L1_ok h59
        simp only [t_additiveref18_Cells_L1_st, t_additiveref18_Cells_L1_out] at f61
        cases e63 : v60 with
        | nil =>
          try simp only [e63, flen_nil] at h
          simp only [e63, flen_nil, fcase_nil, fcase_lst] at f61
          cases h
          show LK env [] 0 [1, 3, 4] c25_L2 (some (t_additiveref18_Cells_L2_st _ _)) = LK env [] 0 [1, 3, 4] c25_L2 (some (t_additiveref18_Cells_L2_st _ _))
          simp only [t_additiveref18_Cells_L2_st, e7]
          rw [LK_step]
          try simp only [c8] at f61
          simp (maxSteps := 4000000) [c8, e7, f61, e63, e_i64, e_sl_api_Row, e_sl_api_Run, e_additiveref34_seen, e_api_Cell, e_api_Region, e_api_Row, e_api_Run, ↓c25_L0_u, ↓c25_L1_u, ↓c25_L2_u, c25_0, c25_1, c25_2, c25_3, c25_4, c25_5, c25_6, c25_7, c25_8, c25_9, c25_10, c25_11, c25_13, c25_15, c25_17]
        | lst l62 =>
          try simp only [e63] at h
          simp only [e63, flen_nil, fcase_nil, fcase_lst] at f61
          cases h
          show LK env [] 0 [1, 3, 4] c25_L2 (some (t_additiveref18_Cells_L2_st _ _)) = LK env [] 0 [1, 3, 4] c25_L2 (some (t_additiveref18_Cells_L2_st _ _))
          simp only [t_additiveref18_Cells_L2_st, e7]
          rw [LK_step]
          try simp only [c8] at f61
          simp (maxSteps := 4000000) [c8, e7, f61, e63, e_i64, e_sl_api_Row, e_sl_api_Run, e_additiveref34_seen, e_api_Cell, e_api_Region, e_api_Row, e_api_Run, ↓c25_L0_u, ↓c25_L1_u, ↓c25_L2_u, c25_0, c25_1, c25_2, c25_3, c25_4, c25_5, c25_6, c25_7, c25_8, c25_9, c25_10, c25_11, c25_13, c25_15, c25_17]
    · rw [if_neg c8] at h
      rw [Bool.not_eq_true] at c8
      cases h
      show LK env [] 0 [1, 3, 4] c25_L2 (some (t_additiveref18_Cells_L2_st _ _)) = some (t_additiveref18_Cells_L2_out _ _)
      simp only [t_additiveref18_Cells_L2_st, t_additiveref18_Cells_L2_out, e7]
      rw [LK_step]
      simp (maxSteps := 4000000) [c8, e7, e_i64, e_sl_api_Row, e_sl_api_Run, e_additiveref34_seen, e_api_Cell, e_api_Region, e_api_Row, e_api_Run, ↓c25_L0_u, ↓c25_L1_u, ↓c25_L2_u, c25_0, c25_1, c25_2, c25_3, c25_4, c25_5, c25_6, c25_7, c25_8, c25_9, c25_10, c25_11, c25_13, c25_15, c25_17]
  | lst l6 =>
    try simp only [e7] at h
    by_cases c64 : (ilt s1 (flen k0.Rows)) = true
    · rw [if_pos c64] at h
      cases h65 : loopT (t_additiveref18_Cells_L1 k0 s1) bigN ((FS.lst l6), 0) with
      | none => (rw [h65] at h; cases h)
      | some v66 =>
        simp only [h65] at h
        have f67 := t_additiveref18_Cells_L1_ok h65
        simp only [t_additiveref18_Cells_L1_st, t_additiveref18_Cells_L1_out] at f67
        cases e69 : v66 with
        | nil =>
          try simp only [e69, flen_nil] at h
          simp only [e69, flen_nil, fcase_nil, fcase_lst] at f67
          cases h
          show LK env [] 0 [1, 3, 4] c25_L2 (some (t_additiveref18_Cells_L2_st _ _)) = LK env [] 0 [1, 3, 4] c25_L2 (some (t_additiveref18_Cells_L2_st _ _))
          simp only [t_additiveref18_Cells_L2_st, e7]
          rw [LK_step]
          try simp only [c64] at f67
          simp (maxSteps := 4000000) [c64, e7, f67, e69, e_i64, e_sl_api_Row, e_sl_api_Run, e_additiveref34_seen, e_api_Cell, e_api_Region, e_api_Row, e_api_Run, ↓c25_L0_u, ↓c25_L1_u, ↓c25_L2_u, c25_0, c25_1, c25_2, c25_3, c25_4, c25_5, c25_6, c25_7, c25_8, c25_9, c25_10, c25_11, c25_13, c25_15, c25_17]
        | lst l68 =>
          try simp only [e69] at h
          simp only [e69, flen_nil, fcase_nil, fcase_lst] at f67
          cases h
          show LK env [] 0 [1, 3, 4] c25_L2 (some (t_additiveref18_Cells_L2_st _ _)) = LK env [] 0 [1, 3, 4] c25_L2 (some (t_additiveref18_Cells_L2_st _ _))
          simp only [t_additiveref18_Cells_L2_st, e7]
          rw [LK_step]
          try simp only [c64] at f67
          simp (maxSteps := 4000000) [c64, e7, f67, e69, e_i64, e_sl_api_Row, e_sl_api_Run, e_additiveref34_seen, e_api_Cell, e_api_Region, e_api_Row, e_api_Run, ↓c25_L0_u, ↓c25_L1_u, ↓c25_L2_u, c25_0, c25_1, c25_2, c25_3, c25_4, c25_5, c25_6, c25_7, c25_8, c25_9, c25_10, c25_11, c25_13, c25_15, c25_17]
    · rw [if_neg c64] at h
      rw [Bool.not_eq_true] at c64
      cases h
      show LK env [] 0 [1, 3, 4] c25_L2 (some (t_additiveref18_Cells_L2_st _ _)) = some (t_additiveref18_Cells_L2_out _ _)
      simp only [t_additiveref18_Cells_L2_st, t_additiveref18_Cells_L2_out, e7]
      rw [LK_step]
      simp (maxSteps := 4000000) [c64, e7, e_i64, e_sl_api_Row, e_sl_api_Run, e_additiveref34_seen, e_api_Cell, e_api_Region, e_api_Row, e_api_Run, ↓c25_L0_u, ↓c25_L1_u, ↓c25_L2_u, c25_0, c25_1, c25_2, c25_3, c25_4, c25_5, c25_6, c25_7, c25_8, c25_9, c25_10, c25_11, c25_13, c25_15, c25_17]) bigN s r h
def t_additiveref18_Cells (p0 : api_Region) : Option (FS api_Cell) := (match t_additiveref18_Valid p0 with
 | none => none
 | some v3 => (if (bnot v3) = true then some (FS.nil : (FS api_Cell))
 else (match loopT (t_additiveref18_Cells_L2 p0) bigN ((FS.nil : (FS api_Cell)), 0) with
 | none => none
 | some v31 => some v31)))
theorem t_additiveref18_Cells_ok {p0 : api_Region} {r : (FS api_Cell)} (h : t_additiveref18_Cells p0 = some r) : FC env 25 [.agg [encF e_api_Row p0.Rows]] none = some (encF e_api_Cell r, fun _ => none) := by
  unfold t_additiveref18_Cells at h
  cases h2 : t_additiveref18_Valid p0 with
  | none => (rw [h2] at h; cases h)
  | some v3 =>
    simp only [h2] at h
    have f1 := t_additiveref18_Valid_ok h2
    by_cases c4 : (bnot v3) = true
    · rw [if_pos c4] at h
      cases h
      refine FC_pure (lf := lf25) rfl rfl rfl ?_
      simp only [lf25, lc25, c25_0, c25_1, c25_2, c25_3, c25_4, c25_5, c25_6, c25_7, c25_8, c25_9, c25_10, c25_11, c25_13, c25_15, c25_17]
      rcases tof v3 with a5 | a5
      · simp [a5] at c4
      · simp (maxSteps := 4000000) [a5, f1, e_i64, e_sl_api_Row, e_sl_api_Run, e_additiveref34_seen, e_api_Cell, e_api_Region, e_api_Row, e_api_Run, ↓c25_L0_u, ↓c25_L1_u, ↓c25_L2_u]
    · rw [if_neg c4] at h
      rw [Bool.not_eq_true] at c4
      cases h70 : loopT (t_additiveref18_Cells_L2 p0) bigN ((FS.nil : (FS api_Cell)), 0) with
      | none => (rw [h70] at h; cases h)
      | some v71 =>
        simp only [h70] at h
        have f72 := t_additiveref18_Cells_L2_ok h70
        simp only [t_additiveref18_Cells_L2_st, t_additiveref18_Cells_L2_out] at f72
        cases e74 : v71 with
        | nil =>
          try simp only [e74, flen_nil] at h
          simp only [e74, flen_nil, fcase_nil, fcase_lst] at f72
          cases h
          refine FC_pure (lf := lf25) rfl rfl rfl ?_
          simp only [lf25, lc25, c25_0, c25_1, c25_2, c25_3, c25_4, c25_5, c25_6, c25_7, c25_8, c25_9, c25_10, c25_11, c25_13, c25_15, c25_17]
          rcases tof v3 with a75 | a75
          · try simp only [a75] at f72
            simp (maxSteps := 4000000) [a75, f1, f72, e74, e_i64, e_sl_api_Row, e_sl_api_Run, e_additiveref34_seen, e_api_Cell, e_api_Region, e_api_Row, e_api_Run, ↓c25_L0_u, ↓c25_L1_u, ↓c25_L2_u]
          · simp [a75] at c4
        | lst l73 =>
          try simp only [e74] at h
          simp only [e74, flen_nil, fcase_nil, fcase_lst] at f72
          cases h
          refine FC_pure (lf := lf25) rfl rfl rfl ?_
          simp only [lf25, lc25, c25_0, c25_1, c25_2, c25_3, c25_4, c25_5, c25_6, c25_7, c25_8, c25_9, c25_10, c25_11, c25_13, c25_15, c25_17]
          rcases tof v3 with a76 | a76
          · try simp only [a76] at f72
            simp (maxSteps := 4000000) [a76, f1, f72, e74, e_i64, e_sl_api_Row, e_sl_api_Run, e_additiveref34_seen, e_api_Cell, e_api_Region, e_api_Row, e_api_Run, ↓c25_L0_u, ↓c25_L1_u, ↓c25_L2_u, snap_rowD (e := e_api_Cell) (el := 26) (fz := false)]
          · simp [a76] at c4

/-! additivelaw34.step -/
def u_additivelaw34_step (p0 : api_Cell) (p1 : api_Cell) : Bool := (ieq (iadd .i64 (imul .i64 (isub .i64 p0.X p1.X) (isub .i64 p0.X p1.X)) (imul .i64 (isub .i64 p0.Y p1.Y) (isub .i64 p0.Y p1.Y))) 1)
def t_additivelaw34_step (p0 : api_Cell) (p1 : api_Cell) : Option Bool := some (u_additivelaw34_step p0 p1)
theorem u_additivelaw34_step_ok (p0 : api_Cell) (p1 : api_Cell) : FC env 28 [.agg [.int .i64 p0.X, .int .i64 p0.Y], .agg [.int .i64 p1.X, .int .i64 p1.Y]] none = some (.bool (u_additivelaw34_step p0 p1), fun _ => none) := by
  unfold u_additivelaw34_step
  refine FC_pure (lf := lf28) rfl rfl rfl ?_
  simp only [lf28, lc28, c28_0, c28_1, c28_2]
  simp (maxSteps := 4000000) [e_i64, e_sl_api_Row, e_sl_api_Run, e_additiveref34_seen, e_api_Cell, e_api_Region, e_api_Row, e_api_Run]
theorem t_additivelaw34_step_ok {p0 : api_Cell} {p1 : api_Cell} {r : Bool} (h : t_additivelaw34_step p0 p1 = some r) : FC env 28 [.agg [.int .i64 p0.X, .int .i64 p0.Y], .agg [.int .i64 p1.X, .int .i64 p1.Y]] none = some (.bool r, fun _ => none) := by
  cases h
  exact u_additivelaw34_step_ok _ _

/-! additivelaw34.levels -/
theorem c26_L0_u (Γ : Env) (ps : List Nat) (σ : St) : EC Γ ps 0 c26_L0 σ = EC Γ ps 0 (.seq (.seq (.reg false c26_3) (.cond (.t 17) .skip (.seq (.trim [0, 5]) (.exit 0)))) (.seq (.blk 1 (.seq (.reg false c26_4) (.seq (.reg true c26_5) (.cond (.t 28) (.reg false c26_6) .skip)))) (.reg false c26_7))) σ := rfl
theorem c26_L1_u (Γ : Env) (ps : List Nat) (σ : St) : EC Γ ps 0 c26_L1 σ = EC Γ ps 0 (.seq (.seq (.reg false c26_15) (.cond (.t 55) .skip (.seq (.trim [0, 5, 7, 8, 9]) (.exit 6)))) (.seq (.blk 7 (.seq (.reg true c26_16) (.cond (.t 73) (.seq (.reg false c26_17) (.reg false c26_18)) .skip))) (.reg false c26_19))) σ := rfl
theorem c26_L2_u (Γ : Env) (ps : List Nat) (σ : St) : EC Γ ps 0 c26_L2 σ = EC Γ ps 0 (.seq (.seq (.reg false c26_13) (.cond (.t 41) .skip (.seq (.trim [0, 5, 7, 8]) (.exit 4)))) (.seq (.blk 5 (.seq (.reg false c26_14) (.blk 6 (.loop [0, 5, 7, 8, 9, 10] c26_L1)))) (.reg false c26_21))) σ := rfl
theorem c26_L3_u (Γ : Env) (ps : List Nat) (σ : St) : EC Γ ps 0 c26_L3 σ = EC Γ ps 0 (.seq (.seq (.reg false c26_10) (.cond (.t 35) .skip (.seq (.trim [5]) (.exit 2)))) (.seq (.blk 3 (.seq (.reg false c26_11) (.seq (.seq (.reg false c26_12) (.blk 4 (.loop [0, 5, 7, 8, 9] c26_L2))) (.seq (.reg false c26_23) (.cond (.t 80) (.seq (.reg false c26_24) (.seq (.trim [4]) .ret)) .skip))))) (.reg false c26_25))) σ := rfl
def t_additivelaw34_levels_L0 (k0 : (FS api_Cell)) (k1 : api_Cell) (s : ((FS Int) × Int)) : Option (LR ((FS Int) × Int) (FS Int)) := match s with
 | (s0, s1) => (if (ilt s1 (flen k0)) = true then (match fget s0 s1 with
 | none => none
 | some v7 => (match fget k0 s1 with
 | none => none
 | some v12 => (if (band (ieq v12.X k1.X) (band (ieq v12.Y k1.Y) true)) = true then (match fget (fset s0 s1 (-1)) s1 with
 | none => none
 | some v17 => some (.nx ((fset (fset s0 s1 (-1)) s1 0), (iadd .i64 s1 1))))
 else some (.nx ((fset s0 s1 (-1)), (iadd .i64 s1 1))))))
 else some (.dn s0))
def t_additivelaw34_levels_L0_st (k0 : (FS api_Cell)) (k1 : api_Cell) (s : ((FS Int) × Int)) : St := match s with
 | (s0, s1) => ⟨fr [(0, encF e_api_Cell k0), (3, .ptr 3 0 0), (5, .arr 5 0 0 s0.l.length), (6, .int .i64 s1)], hl [(3, .box 0 [.int .i64 k1.X, .int .i64 k1.Y]), (5, .arr 0 1 3 (cellsE e_i64 s0.l) false)]⟩
def t_additivelaw34_levels_L0_out (k0 : (FS api_Cell)) (k1 : api_Cell) (x : (FS Int)) : LE × St := (.exit 0, ⟨fr [(0, encF e_api_Cell k0), (5, .arr 5 0 0 x.l.length)], hl [(5, .arr 0 1 3 (cellsE e_i64 x.l) false)]⟩)
theorem t_additivelaw34_levels_L0_ok {k0 : (FS api_Cell)} {k1 : api_Cell} {s : ((FS Int) × Int)} {r : (FS Int)} (h : loopT (t_additivelaw34_levels_L0 k0 k1) bigN s = some r) : LK env [] 0 [0, 3, 5, 6] c26_L0 (some (t_additivelaw34_levels_L0_st k0 k1 s)) = some (t_additivelaw34_levels_L0_out k0 k1 r) := loop_walk (st := t_additivelaw34_levels_L0_st k0 k1) (out := t_additivelaw34_levels_L0_out k0 k1) (by
  clear h s r
  rintro ⟨s0, s1⟩ x h
  simp only [t_additivelaw34_levels_L0] at h
  by_cases c3 : (ilt s1 (flen k0)) = true
  · rw [if_pos c3] at h
    cases h6 : fget s0 s1 with
    | none => (rw [h6] at h; cases h)
    | some v7 =>
      simp only [h6] at h
      have f4 := iaddr_row (w := 1) h6
      have f5 := h6
      have f8 := @paste_row0 _ _ e_i64 _ s0 s1 v7 (-1) f5 [.int .i64 (-1)] (by simp) (by simp [e_i64])
      have f9 := in_row0 (w := 1) f5 1 (by decide)
      try simp at f9
      cases h11 : fget k0 s1 with
      | none => (rw [h11] at h; cases h)
      | some v12 =>
        simp only [h11] at h
        have f10 := iaddr_F (e := e_api_Cell) h11
        by_cases c13 : (band (ieq v12.X k1.X) (band (ieq v12.Y k1.Y) true)) = true
        · rw [if_pos c13] at h
          cases h16 : fget (fset s0 s1 (-1)) s1 with
          | none => (rw [h16] at h; cases h)
          | some v17 =>
            simp only [h16] at h
            have f14 := iaddr_row (w := 1) h16
            try simp only [fset_len] at f14
            have f15 := h16
            have f18 := @paste_row0 _ _ e_i64 _ (fset s0 s1 (-1)) s1 v17 0 f15 [.int .i64 0] (by simp) (by simp [e_i64])
            have f19 := in_row0 (w := 1) f15 1 (by decide)
            try simp at f19
            cases h
            show LK env [] 0 [0, 3, 5, 6] c26_L0 (some (t_additivelaw34_levels_L0_st _ _ _)) = LK env [] 0 [0, 3, 5, 6] c26_L0 (some (t_additivelaw34_levels_L0_st _ _ _))
            simp only [t_additivelaw34_levels_L0_st]
            rw [LK_step]
            rcases tof (ieq v12.X k1.X) with a20 | a20
            · rcases tof (ieq v12.Y k1.Y) with a21 | a21
              · simp (maxSteps := 4000000) [c3, a20, a21, f4, f8, f9, f10, f14, f18, f19, e_i64, e_sl_api_Row, e_sl_api_Run, e_additiveref34_seen, e_api_Cell, e_api_Region, e_api_Row, e_api_Run, ↓c26_L0_u, ↓c26_L1_u, ↓c26_L2_u, ↓c26_L3_u, c26_0, c26_1, c26_2, c26_3, c26_4, c26_5, c26_6, c26_7, c26_9, c26_10, c26_11, c26_12, c26_13, c26_14, c26_15, c26_16, c26_17, c26_18, c26_19, c26_21, c26_23, c26_24, c26_25, c26_27]
              · simp [c3, a20, a21] at c13
            · simp [c3, a20] at c13
        · rw [if_neg c13] at h
          rw [Bool.not_eq_true] at c13
          cases h
          show LK env [] 0 [0, 3, 5, 6] c26_L0 (some (t_additivelaw34_levels_L0_st _ _ _)) = LK env [] 0 [0, 3, 5, 6] c26_L0 (some (t_additivelaw34_levels_L0_st _ _ _))
          simp only [t_additivelaw34_levels_L0_st]
          rw [LK_step]
          rcases tof (ieq v12.X k1.X) with a22 | a22
          · rcases tof (ieq v12.Y k1.Y) with a23 | a23
            · simp [c3, a22, a23] at c13
            · simp (maxSteps := 4000000) [c3, a22, a23, f4, f8, f9, f10, e_i64, e_sl_api_Row, e_sl_api_Run, e_additiveref34_seen, e_api_Cell, e_api_Region, e_api_Row, e_api_Run, ↓c26_L0_u, ↓c26_L1_u, ↓c26_L2_u, ↓c26_L3_u, c26_0, c26_1, c26_2, c26_3, c26_4, c26_5, c26_6, c26_7, c26_9, c26_10, c26_11, c26_12, c26_13, c26_14, c26_15, c26_16, c26_17, c26_18, c26_19, c26_21, c26_23, c26_24, c26_25, c26_27]
          · simp (maxSteps := 4000000) [c3, a22, f4, f8, f9, f10, e_i64, e_sl_api_Row, e_sl_api_Run, e_additiveref34_seen, e_api_Cell, e_api_Region, e_api_Row, e_api_Run, ↓c26_L0_u, ↓c26_L1_u, ↓c26_L2_u, ↓c26_L3_u, c26_0, c26_1, c26_2, c26_3, c26_4, c26_5, c26_6, c26_7, c26_9, c26_10, c26_11, c26_12, c26_13, c26_14, c26_15, c26_16, c26_17, c26_18, c26_19, c26_21, c26_23, c26_24, c26_25, c26_27]
  · rw [if_neg c3] at h
    rw [Bool.not_eq_true] at c3
    cases h
    show LK env [] 0 [0, 3, 5, 6] c26_L0 (some (t_additivelaw34_levels_L0_st _ _ _)) = some (t_additivelaw34_levels_L0_out _ _ _)
    simp only [t_additivelaw34_levels_L0_st, t_additivelaw34_levels_L0_out]
    rw [LK_step]
    simp (maxSteps := 4000000) [c3, e_i64, e_sl_api_Row, e_sl_api_Run, e_additiveref34_seen, e_api_Cell, e_api_Region, e_api_Row, e_api_Run, ↓c26_L0_u, ↓c26_L1_u, ↓c26_L2_u, ↓c26_L3_u, c26_0, c26_1, c26_2, c26_3, c26_4, c26_5, c26_6, c26_7, c26_9, c26_10, c26_11, c26_12, c26_13, c26_14, c26_15, c26_16, c26_17, c26_18, c26_19, c26_21, c26_23, c26_24, c26_25, c26_27]) bigN s r h
def t_additivelaw34_levels_L1 (k0 : (FS api_Cell)) (k1 : Int) (k2 : Int) (s : ((FS Int) × Bool × Int)) : Option (LR ((FS Int) × Bool × Int) ((FS Int) × Bool)) := match s with
 | (s0, s1, s2) => (match gOpt (ilt s2 (flen k0)) (fget s0 k2) with
 | none => none
 | some v28 => (if (band (ilt s2 (flen k0)) (ieq (v28.getD 0) k1)) = true then (match fget s0 s2 with
 | none => none
 | some v34 => (match gOpt (ilt v34 0) (fget k0 k2) with
 | none => none
 | some v38 => (match gOpt (ilt v34 0) (fget k0 s2) with
 | none => none
 | some v41 => (if (band (ilt v34 0) (u_additivelaw34_step (v38.getD (⟨0, 0⟩ : api_Cell)) (v41.getD (⟨0, 0⟩ : api_Cell)))) = true then some (.nx ((fset s0 s2 (iadd .i64 k1 1)), true, (iadd .i64 s2 1)))
 else some (.nx (s0, s1, (iadd .i64 s2 1)))))))
 else some (.dn (s0, s1))))
def t_additivelaw34_levels_L1_st (k0 : (FS api_Cell)) (k1 : Int) (k2 : Int) (s : ((FS Int) × Bool × Int)) : St := match s with
 | (s0, s1, s2) => ⟨fr [(0, encF e_api_Cell k0), (5, .arr 5 0 0 s0.l.length), (7, .int .i64 k1), (8, .bool s1), (9, .int .i64 k2), (10, .int .i64 s2)], hl [(5, .arr 0 1 3 (cellsE e_i64 s0.l) false)]⟩
def t_additivelaw34_levels_L1_out (k0 : (FS api_Cell)) (k1 : Int) (k2 : Int) (x : ((FS Int) × Bool)) : LE × St := (.exit 6, ⟨fr [(0, encF e_api_Cell k0), (5, .arr 5 0 0 x.1.l.length), (7, .int .i64 k1), (8, .bool x.2), (9, .int .i64 k2)], hl [(5, .arr 0 1 3 (cellsE e_i64 x.1.l) false)]⟩)
theorem t_additivelaw34_levels_L1_ok {k0 : (FS api_Cell)} {k1 : Int} {k2 : Int} {s : ((FS Int) × Bool × Int)} {r : ((FS Int) × Bool)} (h : loopT (t_additivelaw34_levels_L1 k0 k1 k2) bigN s = some r) : LK env [] 0 [0, 5, 7, 8, 9, 10] c26_L1 (some (t_additivelaw34_levels_L1_st k0 k1 k2 s)) = some (t_additivelaw34_levels_L1_out k0 k1 k2 r) := loop_walk (st := t_additivelaw34_levels_L1_st k0 k1 k2) (out := t_additivelaw34_levels_L1_out k0 k1 k2) (by
  clear h s r
  rintro ⟨s0, s1, s2⟩ x h
  simp only [t_additivelaw34_levels_L1] at h
  cases h31 : gOpt (ilt s2 (flen k0)) (fget s0 k2) with
  | none => (rw [h31] at h; cases h)
  | some v32 =>
    simp only [h31] at h
    have f29 := fun (q0 : (ilt s2 (flen k0)) = true) => iaddr_row (w := 1) (gOpt_getD 0 h31 q0)
    have f30 := fun (q0 : (ilt s2 (flen k0)) = true) => (gOpt_getD 0 h31 q0)
    have f33 := fun (q0 : (ilt s2 (flen k0)) = true) => (pack_row0 (e := e_i64) (f30 q0) false 1 (by decide) (by decide))
    simp only [e_i64] at f33
    by_cases c34 : (band (ilt s2 (flen k0)) (ieq (v32.getD 0) k1)) = true
    · rw [if_pos c34] at h
      cases h37 : fget s0 s2 with
      | none => (rw [h37] at h; cases h)
      | some v38 =>
        simp only [h37] at h
        have f35 := iaddr_row (w := 1) h37
        have f36 := h37
        have f39 := (pack_row0 (e := e_i64) f36 false 1 (by decide) (by decide))
        simp only [e_i64] at f39
        cases h41 : gOpt (ilt v38 0) (fget k0 k2) with
        | none => (rw [h41] at h; cases h)
        | some v42 =>
          simp only [h41] at h
          have f40 := fun (q0 : (ilt v38 0) = true) => iaddr_F (e := e_api_Cell) (gOpt_getD (⟨0, 0⟩ : api_Cell) h41 q0)
          cases h44 : gOpt (ilt v38 0) (fget k0 s2) with
          | none => (rw [h44] at h; cases h)
          | some v45 =>
            simp only [h44] at h
            have f43 := fun (q0 : (ilt v38 0) = true) => iaddr_F (e := e_api_Cell) (gOpt_getD (⟨0, 0⟩ : api_Cell) h44 q0)
            have f46 := u_additivelaw34_step_ok (v42.getD (⟨0, 0⟩ : api_Cell)) (v45.getD (⟨0, 0⟩ : api_Cell))
            by_cases c47 : (band (ilt v38 0) (u_additivelaw34_step (v42.getD (⟨0, 0⟩ : api_Cell)) (v45.getD (⟨0, 0⟩ : api_Cell)))) = true
            · rw [if_pos c47] at h
              have f50 := @paste_row0 _ _ e_i64 _ s0 s2 v38 (iadd .i64 k1 1) f36 [.int .i64 (iadd .i64 k1 1)] (by simp) (by simp [e_i64])
              have f51 := in_row0 (w := 1) f36 1 (by decide)
              try simp at f51
              cases h
              show LK env [] 0 [0, 5, 7, 8, 9, 10] c26_L1 (some (t_additivelaw34_levels_L1_st _ _ _ _)) = LK env [] 0 [0, 5, 7, 8, 9, 10] c26_L1 (some (t_additivelaw34_levels_L1_st _ _ _ _))
              simp only [t_additivelaw34_levels_L1_st]
              rw [LK_step]
              rcases tof (ilt s2 (flen k0)) with a52 | a52
              · rcases tof (ieq (v32.getD 0) k1) with a53 | a53
                · rcases tof (ilt v38 0) with a54 | a54
                  · rcases tof (u_additivelaw34_step (v42.getD (⟨0, 0⟩ : api_Cell)) (v45.getD (⟨0, 0⟩ : api_Cell))) with a55 | a55
                    · simp (maxSteps := 4000000) [a52, a53, a54, a55, f29, f33, f35, f39, f40, f43, f46, f50, f51, e_i64, e_sl_api_Row, e_sl_api_Run, e_additiveref34_seen, e_api_Cell, e_api_Region, e_api_Row, e_api_Run, ↓c26_L0_u, ↓c26_L1_u, ↓c26_L2_u, ↓c26_L3_u, c26_0, c26_1, c26_2, c26_3, c26_4, c26_5, c26_6, c26_7, c26_9, c26_10, c26_11, c26_12, c26_13, c26_14, c26_15, c26_16, c26_17, c26_18, c26_19, c26_21, c26_23, c26_24, c26_25, c26_27]
                    · simp [a52, a53, a54, a55] at c47
                  · simp [a52, a53, a54] at c47
                · simp [a52, a53] at c34
              · simp [a52] at c34
            · rw [if_neg c47] at h
              rw [Bool.not_eq_true] at c47
              cases h
              show LK env [] 0 [0, 5, 7, 8, 9, 10] c26_L1 (some (t_additivelaw34_levels_L1_st _ _ _ _)) = LK env [] 0 [0, 5, 7, 8, 9, 10] c26_L1 (some (t_additivelaw34_levels_L1_st _ _ _ _))
              simp only [t_additivelaw34_levels_L1_st]
              rw [LK_step]
              rcases tof (ilt s2 (flen k0)) with a56 | a56
              · rcases tof (ieq (v32.getD 0) k1) with a57 | a57
                · rcases tof (ilt v38 0) with a58 | a58
                  · rcases tof (u_additivelaw34_step (v42.getD (⟨0, 0⟩ : api_Cell)) (v45.getD (⟨0, 0⟩ : api_Cell))) with a59 | a59
                    · simp [a56, a57, a58, a59] at c47
                    · simp (maxSteps := 4000000) [a56, a57, a58, a59, f29, f33, f35, f39, f40, f43, f46, e_i64, e_sl_api_Row, e_sl_api_Run, e_additiveref34_seen, e_api_Cell, e_api_Region, e_api_Row, e_api_Run, ↓c26_L0_u, ↓c26_L1_u, ↓c26_L2_u, ↓c26_L3_u, c26_0, c26_1, c26_2, c26_3, c26_4, c26_5, c26_6, c26_7, c26_9, c26_10, c26_11, c26_12, c26_13, c26_14, c26_15, c26_16, c26_17, c26_18, c26_19, c26_21, c26_23, c26_24, c26_25, c26_27]
                  · simp (maxSteps := 4000000) [a56, a57, a58, f29, f33, f35, f39, f40, f43, f46, e_i64, e_sl_api_Row, e_sl_api_Run, e_additiveref34_seen, e_api_Cell, e_api_Region, e_api_Row, e_api_Run, ↓c26_L0_u, ↓c26_L1_u, ↓c26_L2_u, ↓c26_L3_u, c26_0, c26_1, c26_2, c26_3, c26_4, c26_5, c26_6, c26_7, c26_9, c26_10, c26_11, c26_12, c26_13, c26_14, c26_15, c26_16, c26_17, c26_18, c26_19, c26_21, c26_23, c26_24, c26_25, c26_27]
                · simp [a56, a57] at c34
              · simp [a56] at c34
    · rw [if_neg c34] at h
      rw [Bool.not_eq_true] at c34
      cases h
      show LK env [] 0 [0, 5, 7, 8, 9, 10] c26_L1 (some (t_additivelaw34_levels_L1_st _ _ _ _)) = some (t_additivelaw34_levels_L1_out _ _ _ _)
      simp only [t_additivelaw34_levels_L1_st, t_additivelaw34_levels_L1_out]
      rw [LK_step]
      rcases tof (ilt s2 (flen k0)) with a60 | a60
      · rcases tof (ieq (v32.getD 0) k1) with a61 | a61
        · simp [a60, a61] at c34
        · simp (maxSteps := 4000000) [a60, a61, f29, f33, e_i64, e_sl_api_Row, e_sl_api_Run, e_additiveref34_seen, e_api_Cell, e_api_Region, e_api_Row, e_api_Run, ↓c26_L0_u, ↓c26_L1_u, ↓c26_L2_u, ↓c26_L3_u, c26_0, c26_1, c26_2, c26_3, c26_4, c26_5, c26_6, c26_7, c26_9, c26_10, c26_11, c26_12, c26_13, c26_14, c26_15, c26_16, c26_17, c26_18, c26_19, c26_21, c26_23, c26_24, c26_25, c26_27]
      · simp (maxSteps := 4000000) [a60, f29, f33, e_i64, e_sl_api_Row, e_sl_api_Run, e_additiveref34_seen, e_api_Cell, e_api_Region, e_api_Row, e_api_Run, ↓c26_L0_u, ↓c26_L1_u, ↓c26_L2_u, ↓c26_L3_u, c26_0, c26_1, c26_2, c26_3, c26_4, c26_5, c26_6, c26_7, c26_9, c26_10, c26_11, c26_12, c26_13, c26_14, c26_15, c26_16, c26_17, c26_18, c26_19, c26_21, c26_23, c26_24, c26_25, c26_27]) bigN s r h
def t_additivelaw34_levels_L2 (k0 : (FS api_Cell)) (k1 : Int) (s : ((FS Int) × Bool × Int)) : Option (LR ((FS Int) × Bool × Int) ((FS Int) × Bool)) := match s with
 | (s0, s1, s2) => (if (ilt s2 (flen k0)) = true then (match loopT (t_additivelaw34_levels_L1 k0 k1 s2) bigN (s0, s1, 0) with
 | none => none
 | some v49 => some (.nx (v49.1, v49.2, (iadd .i64 s2 1))))
 else some (.dn (s0, s1)))
def t_additivelaw34_levels_L2_st (k0 : (FS api_Cell)) (k1 : Int) (s : ((FS Int) × Bool × Int)) : St := match s with
 | (s0, s1, s2) => ⟨fr [(0, encF e_api_Cell k0), (5, .arr 5 0 0 s0.l.length), (7, .int .i64 k1), (8, .bool s1), (9, .int .i64 s2)], hl [(5, .arr 0 1 3 (cellsE e_i64 s0.l) false)]⟩
def t_additivelaw34_levels_L2_out (k0 : (FS api_Cell)) (k1 : Int) (x : ((FS Int) × Bool)) : LE × St := (.exit 4, ⟨fr [(0, encF e_api_Cell k0), (5, .arr 5 0 0 x.1.l.length), (7, .int .i64 k1), (8, .bool x.2)], hl [(5, .arr 0 1 3 (cellsE e_i64 x.1.l) false)]⟩)
theorem t_additivelaw34_levels_L2_ok {k0 : (FS api_Cell)} {k1 : Int} {s : ((FS Int) × Bool × Int)} {r : ((FS Int) × Bool)} (h : loopT (t_additivelaw34_levels_L2 k0 k1) bigN s = some r) : LK env [] 0 [0, 5, 7, 8, 9] c26_L2 (some (t_additivelaw34_levels_L2_st k0 k1 s)) = some (t_additivelaw34_levels_L2_out k0 k1 r) := loop_walk (st := t_additivelaw34_levels_L2_st k0 k1) (out := t_additivelaw34_levels_L2_out k0 k1) (by
  clear h s r
  rintro ⟨s0, s1, s2⟩ x h
  simp only [t_additivelaw34_levels_L2] at h
  by_cases c28 : (ilt s2 (flen k0)) = true
  · rw [if_pos c28] at h
    cases h62 : loopT (t_additivelaw34_levels_L1 k0 k1 s2) bigN (s0, s1, 0) with
    | none => (rw [h62] at h; cases h)
    | some v63 =>
      simp only [h62] at h
      have f64 := t_additivelaw34_levels_L1_ok h62
      simp only [t_additivelaw34_levels_L1_st, t_additivelaw34_levels_L1_out] at f64
      try simp only [fcase_nil, fcase_lst, fcase_fsnoc, fcase_fapp, fcase_fset, fcase_frep, fcase_flit, fcase_flst] at f64
      cases h
      show LK env [] 0 [0, 5, 7, 8, 9] c26_L2 (some (t_additivelaw34_levels_L2_st _ _ _)) = LK env [] 0 [0, 5, 7, 8, 9] c26_L2 (some (t_additivelaw34_levels_L2_st _ _ _))
      simp only [t_additivelaw34_levels_L2_st]
      rw [LK_step]
      try simp only [c28] at f64
      simp (maxSteps := 4000000) [c28, f64, e_i64, e_sl_api_Row, e_sl_api_Run, e_additiveref34_seen, e_api_Cell, e_api_Region, e_api_Row, e_api_Run, ↓c26_L0_u, ↓c26_L1_u, ↓c26_L2_u, ↓c26_L3_u, c26_0, c26_1, c26_2, c26_3, c26_4, c26_5, c26_6, c26_7, c26_9, c26_10, c26_11, c26_12, c26_13, c26_14, c26_15, c26_16, c26_17, c26_18, c26_19, c26_21, c26_23, c26_24, c26_25, c26_27]
  · rw [if_neg c28] at h
    rw [Bool.not_eq_true] at c28
    cases h
    show LK env [] 0 [0, 5, 7, 8, 9] c26_L2 (some (t_additivelaw34_levels_L2_st _ _ _)) = some (t_additivelaw34_levels_L2_out _ _ _)
    simp only [t_additivelaw34_levels_L2_st, t_additivelaw34_levels_L2_out]
    rw [LK_step]
    simp (maxSteps := 4000000) [c28, e_i64, e_sl_api_Row, e_sl_api_Run, e_additiveref34_seen, e_api_Cell, e_api_Region, e_api_Row, e_api_Run, ↓c26_L0_u, ↓c26_L1_u, ↓c26_L2_u, ↓c26_L3_u, c26_0, c26_1, c26_2, c26_3, c26_4, c26_5, c26_6, c26_7, c26_9, c26_10, c26_11, c26_12, c26_13, c26_14, c26_15, c26_16, c26_17, c26_18, c26_19, c26_21, c26_23, c26_24, c26_25, c26_27]) bigN s r h
def t_additivelaw34_levels_L3 (k0 : (FS api_Cell)) (s : ((FS Int) × Int)) : Option (LR ((FS Int) × Int) ((FS Int) ⊕ (FS Int))) := match s with
 | (s0, s1) => (if (ilt s1 (flen k0)) = true then (match loopT (t_additivelaw34_levels_L2 k0 s1) bigN (s0, false, 0) with
 | none => none
 | some v52 => (if (bnot v52.2) = true then some (.dn (.inl v52.1))
 else some (.nx (v52.1, (iadd .i64 s1 1)))))
 else some (.dn (.inr s0)))
def t_additivelaw34_levels_L3_st (k0 : (FS api_Cell)) (s : ((FS Int) × Int)) : St := match s with
 | (s0, s1) => ⟨fr [(0, encF e_api_Cell k0), (5, .arr 5 0 0 s0.l.length), (7, .int .i64 s1)], hl [(5, .arr 0 1 3 (cellsE e_i64 s0.l) false)]⟩
def t_additivelaw34_levels_L3_out (k0 : (FS api_Cell)) (x : ((FS Int) ⊕ (FS Int))) : LE × St := match x with
 | .inl x => (.ret, ⟨fr [(4, .arr 4 0 0 x.l.length)], hl [(4, .arr 0 1 3 (cellsE e_i64 x.l) false)]⟩)
 | .inr x => (.exit 2, ⟨fr [(5, .arr 5 0 0 x.l.length)], hl [(5, .arr 0 1 3 (cellsE e_i64 x.l) false)]⟩)
theorem t_additivelaw34_levels_L3_ok {k0 : (FS api_Cell)} {s : ((FS Int) × Int)} {r : ((FS Int) ⊕ (FS Int))} (h : loopT (t_additivelaw34_levels_L3 k0) bigN s = some r) : LK env [] 0 [0, 5, 7] c26_L3 (some (t_additivelaw34_levels_L3_st k0 s)) = some (t_additivelaw34_levels_L3_out k0 r) := loop_walk (st := t_additivelaw34_levels_L3_st k0) (out := t_additivelaw34_levels_L3_out k0) (by
  clear h s r
  rintro ⟨s0, s1⟩ x h
  simp only [t_additivelaw34_levels_L3] at h
  by_cases c27 : (ilt s1 (flen k0)) = true
  · rw [if_pos c27] at h
    cases h65 : loopT (t_additivelaw34_levels_L2 k0 s1) bigN (s0, false, 0) with
    | none => (rw [h65] at h; cases h)
    | some v66 =>
      simp only [h65] at h
      have f67 := t_additivelaw34_levels_L2_ok h65
      simp only [t_additivelaw34_levels_L2_st, t_additivelaw34_levels_L2_out] at f67
      try simp only [fcase_nil, fcase_lst, fcase_fsnoc, fcase_fapp, fcase_fset, fcase_frep, fcase_flit, fcase_flst] at f67
      by_cases c68 : (bnot v66.2) = true
      · rw [if_pos c68] at h
        cases h
        show LK env [] 0 [0, 5, 7] c26_L3 (some (t_additivelaw34_levels_L3_st _ _)) = some (t_additivelaw34_levels_L3_out _ _)
        simp only [t_additivelaw34_levels_L3_st, t_additivelaw34_levels_L3_out]
        rw [LK_step]
        rcases tof v66.2 with a69 | a69
        · simp [c27, a69] at c68
        · try simp only [c27, a69] at f67
          simp (maxSteps := 4000000) [c27, a69, f67, e_i64, e_sl_api_Row, e_sl_api_Run, e_additiveref34_seen, e_api_Cell, e_api_Region, e_api_Row, e_api_Run, ↓c26_L0_u, ↓c26_L1_u, ↓c26_L2_u, ↓c26_L3_u, c26_0, c26_1, c26_2, c26_3, c26_4, c26_5, c26_6, c26_7, c26_9, c26_10, c26_11, c26_12, c26_13, c26_14, c26_15, c26_16, c26_17, c26_18, c26_19, c26_21, c26_23, c26_24, c26_25, c26_27]
      · rw [if_neg c68] at h
        rw [Bool.not_eq_true] at c68
        cases h
        show LK env [] 0 [0, 5, 7] c26_L3 (some (t_additivelaw34_levels_L3_st _ _)) = LK env [] 0 [0, 5, 7] c26_L3 (some (t_additivelaw34_levels_L3_st _ _))
        simp only [t_additivelaw34_levels_L3_st]
        rw [LK_step]
        rcases tof v66.2 with a70 | a70
        · try simp only [c27, a70] at f67
          simp (maxSteps := 4000000) [c27, a70, f67, e_i64, e_sl_api_Row, e_sl_api_Run, e_additiveref34_seen, e_api_Cell, e_api_Region, e_api_Row, e_api_Run, ↓c26_L0_u, ↓c26_L1_u, ↓c26_L2_u, ↓c26_L3_u, c26_0, c26_1, c26_2, c26_3, c26_4, c26_5, c26_6, c26_7, c26_9, c26_10, c26_11, c26_12, c26_13, c26_14, c26_15, c26_16, c26_17, c26_18, c26_19, c26_21, c26_23, c26_24, c26_25, c26_27]
        · simp [c27, a70] at c68
  · rw [if_neg c27] at h
    rw [Bool.not_eq_true] at c27
    cases h
    show LK env [] 0 [0, 5, 7] c26_L3 (some (t_additivelaw34_levels_L3_st _ _)) = some (t_additivelaw34_levels_L3_out _ _)
    simp only [t_additivelaw34_levels_L3_st, t_additivelaw34_levels_L3_out]
    rw [LK_step]
    simp (maxSteps := 4000000) [c27, e_i64, e_sl_api_Row, e_sl_api_Run, e_additiveref34_seen, e_api_Cell, e_api_Region, e_api_Row, e_api_Run, ↓c26_L0_u, ↓c26_L1_u, ↓c26_L2_u, ↓c26_L3_u, c26_0, c26_1, c26_2, c26_3, c26_4, c26_5, c26_6, c26_7, c26_9, c26_10, c26_11, c26_12, c26_13, c26_14, c26_15, c26_16, c26_17, c26_18, c26_19, c26_21, c26_23, c26_24, c26_25, c26_27]) bigN s r h
def t_additivelaw34_levels (p0 : (FS api_Cell)) (p1 : api_Cell) : Option (FS Int) := (if mkOK 8 (flen p0) (flen p0) = true then (match loopT (t_additivelaw34_levels_L0 p0 p1) bigN ((frep 0 (flen p0)), 0) with
 | none => none
 | some v21 => (match loopT (t_additivelaw34_levels_L3 p0) bigN (v21, 0) with
 | none => none
 | some v56 => (match v56 with
 | .inl v56x => some (flst v56x)
 | .inr v56x => some (flst v56x)))) else none)
theorem t_additivelaw34_levels_ok {p0 : (FS api_Cell)} {p1 : api_Cell} {r : (FS Int)} (h : t_additivelaw34_levels p0 p1 = some r) : FC env 26 [encF e_api_Cell p0, .agg [.int .i64 p1.X, .int .i64 p1.Y]] none = some (encF e_i64 r, fun _ => none) := by
  unfold t_additivelaw34_levels at h
  by_cases h2 : mkOK 8 (flen p0) (flen p0) = true
  · rw [if_pos h2] at h
    have f1 := fun H g0 hg => @mk_row _ _ e_i64 _ 0 8 _ _ h2 H g0 hg 3
    simp only [e_i64] at f1
    cases h24 : loopT (t_additivelaw34_levels_L0 p0 p1) bigN ((frep 0 (flen p0)), 0) with
    | none => (rw [h24] at h; cases h)
    | some v25 =>
      simp only [h24] at h
      have f26 := t_additivelaw34_levels_L0_ok h24
      simp only [t_additivelaw34_levels_L0_st, t_additivelaw34_levels_L0_out] at f26
      try simp only [fcase_nil, fcase_lst, fcase_fsnoc, fcase_fapp, fcase_fset, fcase_frep, fcase_flit, fcase_flst] at f26
      cases h71 : loopT (t_additivelaw34_levels_L3 p0) bigN (v25, 0) with
      | none => (rw [h71] at h; cases h)
      | some v72 =>
        simp only [h71] at h
        have f73 := t_additivelaw34_levels_L3_ok h71
        cases v72 with
        | inl v72x =>
          try simp only at h
          simp only [t_additivelaw34_levels_L3_st, t_additivelaw34_levels_L3_out] at f73
          try simp only [fcase_nil, fcase_lst, fcase_fsnoc, fcase_fapp, fcase_fset, fcase_frep, fcase_flit, fcase_flst] at f73
          cases h
          refine FC_pure (lf := lf26) rfl rfl rfl ?_
          simp only [lf26, lc26, c26_0, c26_1, c26_2, c26_3, c26_4, c26_5, c26_6, c26_7, c26_9, c26_10, c26_11, c26_12, c26_13, c26_14, c26_15, c26_16, c26_17, c26_18, c26_19, c26_21, c26_23, c26_24, c26_25, c26_27]
          simp (maxSteps := 4000000) [f1, f26, f73, e_i64, e_sl_api_Row, e_sl_api_Run, e_additiveref34_seen, e_api_Cell, e_api_Region, e_api_Row, e_api_Run, ↓c26_L0_u, ↓c26_L1_u, ↓c26_L2_u, ↓c26_L3_u, snap_rowD (e := e_i64) (el := 3) (fz := false)]
        | inr v72x =>
          try simp only at h
          simp only [t_additivelaw34_levels_L3_st, t_additivelaw34_levels_L3_out] at f73
          try simp only [fcase_nil, fcase_lst, fcase_fsnoc, fcase_fapp, fcase_fset, fcase_frep, fcase_flit, fcase_flst] at f73
          cases h
          refine FC_pure (lf := lf26) rfl rfl rfl ?_
          simp only [lf26, lc26, c26_0, c26_1, c26_2, c26_3, c26_4, c26_5, c26_6, c26_7, c26_9, c26_10, c26_11, c26_12, c26_13, c26_14, c26_15, c26_16, c26_17, c26_18, c26_19, c26_21, c26_23, c26_24, c26_25, c26_27]
          simp (maxSteps := 4000000) [f1, f26, f73, e_i64, e_sl_api_Row, e_sl_api_Run, e_additiveref34_seen, e_api_Cell, e_api_Region, e_api_Row, e_api_Run, ↓c26_L0_u, ↓c26_L1_u, ↓c26_L2_u, ↓c26_L3_u, snap_rowD (e := e_i64) (el := 3) (fz := false)]
  · rw [if_neg h2] at h; cases h

/-! additivelaw34.CombShortest -/
theorem c5_L0_u (Γ : Env) (ps : List Nat) (σ : St) : EC Γ ps 0 c5_L0 σ = EC Γ ps 0 (.seq (.seq (.reg false c5_8) (.cond (.t 33) .skip (.seq (.trim [3, 4, 5, 7, 8, 11]) (.exit 0)))) (.seq (.blk 1 (.seq (.reg true c5_9) (.cond (.t 41) (.reg false c5_10) .skip))) (.reg false c5_11))) σ := rfl
theorem c5_L1_u (Γ : Env) (ps : List Nat) (σ : St) : EC Γ ps 0 c5_L1 σ = EC Γ ps 0 (.seq (.seq (.reg false c5_18) (.cond (.t 87) .skip (.seq (.trim []) (.exit 2)))) (.seq (.blk 3 (.seq (.reg true c5_19) (.cond (.t 113) (.seq (.reg false c5_20) (.seq (.trim [6]) .ret)) .skip))) (.reg false c5_21))) σ := rfl
def t_additivelaw34_CombShortest_L0 (k0 : api_Region) (k1 : api_Cell) (k2 : api_Cell) (k3 : (FS api_Cell)) (k4 : Bool) (k5 : (FS api_Cell)) (k6 : (FS Int)) (s : (Int × Int)) : Option (LR (Int × Int) Int) := match s with
 | (s0, s1) => (if (ilt s1 (flen k5)) = true then (match fget k5 s1 with
 | none => none
 | some v18 => (if (band (ieq v18.X k2.X) (band (ieq v18.Y k2.Y) true)) = true then (match fget k6 s1 with
 | none => none
 | some v22 => some (.nx (v22, (iadd .i64 s1 1))))
 else some (.nx (s0, (iadd .i64 s1 1)))))
 else some (.dn s0))
def t_additivelaw34_CombShortest_L0_st (k0 : api_Region) (k1 : api_Cell) (k2 : api_Cell) (k3 : (FS api_Cell)) (k4 : Bool) (k5 : (FS api_Cell)) (k6 : (FS Int)) (s : (Int × Int)) : St := match s with
 | (s0, s1) => ⟨fr [(3, .ptr 3 0 0), (4, .ptr 4 0 0), (5, .ptr 5 0 0), (7, encF e_api_Cell k3), (8, .bool k4), (9, encF e_api_Cell k5), (10, encF e_i64 k6), (11, .int .i64 s0), (12, .int .i64 s1)], hl [(3, .box 0 [encF e_api_Row k0.Rows]), (4, .box 0 [.int .i64 k1.X, .int .i64 k1.Y]), (5, .box 0 [.int .i64 k2.X, .int .i64 k2.Y])]⟩
def t_additivelaw34_CombShortest_L0_out (k0 : api_Region) (k1 : api_Cell) (k2 : api_Cell) (k3 : (FS api_Cell)) (k4 : Bool) (k5 : (FS api_Cell)) (k6 : (FS Int)) (x : Int) : LE × St := (.exit 0, ⟨fr [(3, .ptr 3 0 0), (4, .ptr 4 0 0), (5, .ptr 5 0 0), (7, encF e_api_Cell k3), (8, .bool k4), (11, .int .i64 x)], hl [(3, .box 0 [encF e_api_Row k0.Rows]), (4, .box 0 [.int .i64 k1.X, .int .i64 k1.Y]), (5, .box 0 [.int .i64 k2.X, .int .i64 k2.Y])]⟩)
theorem t_additivelaw34_CombShortest_L0_ok {k0 : api_Region} {k1 : api_Cell} {k2 : api_Cell} {k3 : (FS api_Cell)} {k4 : Bool} {k5 : (FS api_Cell)} {k6 : (FS Int)} {s : (Int × Int)} {r : Int} (h : loopT (t_additivelaw34_CombShortest_L0 k0 k1 k2 k3 k4 k5 k6) bigN s = some r) : LK env [] 0 [3, 4, 5, 7, 8, 9, 10, 11, 12] c5_L0 (some (t_additivelaw34_CombShortest_L0_st k0 k1 k2 k3 k4 k5 k6 s)) = some (t_additivelaw34_CombShortest_L0_out k0 k1 k2 k3 k4 k5 k6 r) := loop_walk (st := t_additivelaw34_CombShortest_L0_st k0 k1 k2 k3 k4 k5 k6) (out := t_additivelaw34_CombShortest_L0_out k0 k1 k2 k3 k4 k5 k6) (by
  clear h s r
  rintro ⟨s0, s1⟩ x h
  simp only [t_additivelaw34_CombShortest_L0] at h
  by_cases c16 : (ilt s1 (flen k5)) = true
  · rw [if_pos c16] at h
    cases h18 : fget k5 s1 with
    | none => (rw [h18] at h; cases h)
    | some v19 =>
      simp only [h18] at h
      have f17 := iaddr_F (e := e_api_Cell) h18
      by_cases c20 : (band (ieq v19.X k2.X) (band (ieq v19.Y k2.Y) true)) = true
      · rw [if_pos c20] at h
        cases h22 : fget k6 s1 with
        | none => (rw [h22] at h; cases h)
        | some v23 =>
          simp only [h22] at h
          have f21 := iaddr_F (e := e_i64) h22
          cases h
          show LK env [] 0 [3, 4, 5, 7, 8, 9, 10, 11, 12] c5_L0 (some (t_additivelaw34_CombShortest_L0_st _ _ _ _ _ _ _ _)) = LK env [] 0 [3, 4, 5, 7, 8, 9, 10, 11, 12] c5_L0 (some (t_additivelaw34_CombShortest_L0_st _ _ _ _ _ _ _ _))
          simp only [t_additivelaw34_CombShortest_L0_st]
          rw [LK_step]
          rcases tof (ieq v19.X k2.X) with a24 | a24
          · rcases tof (ieq v19.Y k2.Y) with a25 | a25
            · simp (maxSteps := 4000000) [c16, a24, a25, f17, f21, e_i64, e_sl_api_Row, e_sl_api_Run, e_additiveref34_seen, e_api_Cell, e_api_Region, e_api_Row, e_api_Run, ↓c5_L0_u, ↓c5_L1_u, c5_0, c5_1, c5_2, c5_3, c5_4, c5_5, c5_6, c5_7, c5_8, c5_9, c5_10, c5_11, c5_13, c5_14, c5_15, c5_16, c5_17, c5_18, c5_19, c5_20, c5_21, c5_23]
            · simp [c16, a24, a25] at c20
          · simp [c16, a24] at c20
      · rw [if_neg c20] at h
        rw [Bool.not_eq_true] at c20
        cases h
        show LK env [] 0 [3, 4, 5, 7, 8, 9, 10, 11, 12] c5_L0 (some (t_additivelaw34_CombShortest_L0_st _ _ _ _ _ _ _ _)) = LK env [] 0 [3, 4, 5, 7, 8, 9, 10, 11, 12] c5_L0 (some (t_additivelaw34_CombShortest_L0_st _ _ _ _ _ _ _ _))
        simp only [t_additivelaw34_CombShortest_L0_st]
        rw [LK_step]
        rcases tof (ieq v19.X k2.X) with a26 | a26
        · rcases tof (ieq v19.Y k2.Y) with a27 | a27
          · simp [c16, a26, a27] at c20
          · simp (maxSteps := 4000000) [c16, a26, a27, f17, e_i64, e_sl_api_Row, e_sl_api_Run, e_additiveref34_seen, e_api_Cell, e_api_Region, e_api_Row, e_api_Run, ↓c5_L0_u, ↓c5_L1_u, c5_0, c5_1, c5_2, c5_3, c5_4, c5_5, c5_6, c5_7, c5_8, c5_9, c5_10, c5_11, c5_13, c5_14, c5_15, c5_16, c5_17, c5_18, c5_19, c5_20, c5_21, c5_23]
        · simp (maxSteps := 4000000) [c16, a26, f17, e_i64, e_sl_api_Row, e_sl_api_Run, e_additiveref34_seen, e_api_Cell, e_api_Region, e_api_Row, e_api_Run, ↓c5_L0_u, ↓c5_L1_u, c5_0, c5_1, c5_2, c5_3, c5_4, c5_5, c5_6, c5_7, c5_8, c5_9, c5_10, c5_11, c5_13, c5_14, c5_15, c5_16, c5_17, c5_18, c5_19, c5_20, c5_21, c5_23]
  · rw [if_neg c16] at h
    rw [Bool.not_eq_true] at c16
    cases h
    show LK env [] 0 [3, 4, 5, 7, 8, 9, 10, 11, 12] c5_L0 (some (t_additivelaw34_CombShortest_L0_st _ _ _ _ _ _ _ _)) = some (t_additivelaw34_CombShortest_L0_out _ _ _ _ _ _ _ _)
    simp only [t_additivelaw34_CombShortest_L0_st, t_additivelaw34_CombShortest_L0_out]
    rw [LK_step]
    simp (maxSteps := 4000000) [c16, e_i64, e_sl_api_Row, e_sl_api_Run, e_additiveref34_seen, e_api_Cell, e_api_Region, e_api_Row, e_api_Run, ↓c5_L0_u, ↓c5_L1_u, c5_0, c5_1, c5_2, c5_3, c5_4, c5_5, c5_6, c5_7, c5_8, c5_9, c5_10, c5_11, c5_13, c5_14, c5_15, c5_16, c5_17, c5_18, c5_19, c5_20, c5_21, c5_23]) bigN s r h
def t_additivelaw34_CombShortest_L1 (k0 : api_Region) (k1 : (FS api_Cell)) (s : Int) : Option (LR Int (Bool ⊕ Unit)) := match s with
 | s0 => (if (ilt s0 (flen k1)) = true then (match fget k1 s0 with
 | none => none
 | some v38 => (match t_additiveref18_Contains k0 v38 with
 | none => none
 | some v41 => (match gOpt (band (bnot (bnot v41)) (igt s0 0)) (fget k1 (isub .i64 s0 1)) with
 | none => none
 | some v44 => (if (bor (bnot v41) (band (igt s0 0) (bnot (u_additivelaw34_step (v44.getD (⟨0, 0⟩ : api_Cell)) v38)))) = true then some (.dn (.inl false))
 else some (.nx (iadd .i64 s0 1))))))
 else some (.dn (.inr ())))
def t_additivelaw34_CombShortest_L1_st (k0 : api_Region) (k1 : (FS api_Cell)) (s : Int) : St := match s with
 | s0 => ⟨fr [(3, .ptr 3 0 0), (7, encF e_api_Cell k1), (13, .int .i64 s0)], hl [(3, .box 0 [encF e_api_Row k0.Rows])]⟩
def t_additivelaw34_CombShortest_L1_out (k0 : api_Region) (k1 : (FS api_Cell)) (x : (Bool ⊕ Unit)) : LE × St := match x with
 | .inl x => (.ret, ⟨fr [(6, .bool x)], hl []⟩)
 | .inr x => (.exit 2, ⟨fr [], hl []⟩)
theorem t_additivelaw34_CombShortest_L1_ok {k0 : api_Region} {k1 : (FS api_Cell)} {s : Int} {r : (Bool ⊕ Unit)} (h : loopT (t_additivelaw34_CombShortest_L1 k0 k1) bigN s = some r) : LK env [] 0 [3, 7, 13] c5_L1 (some (t_additivelaw34_CombShortest_L1_st k0 k1 s)) = some (t_additivelaw34_CombShortest_L1_out k0 k1 r) := loop_walk (st := t_additivelaw34_CombShortest_L1_st k0 k1) (out := t_additivelaw34_CombShortest_L1_out k0 k1) (by
  clear h s r
  rintro s0 x h
  simp only [t_additivelaw34_CombShortest_L1] at h
  by_cases c52 : (ilt s0 (flen k1)) = true
  · rw [if_pos c52] at h
    cases h54 : fget k1 s0 with
    | none => (rw [h54] at h; cases h)
    | some v55 =>
      simp only [h54] at h
      have f53 := iaddr_F (e := e_api_Cell) h54
      cases h57 : t_additiveref18_Contains k0 v55 with
      | none => (rw [h57] at h; cases h)
      | some v58 =>
        simp only [h57] at h
        have f56 := t_additiveref18_Contains_ok h57
        cases h60 : gOpt (band (bnot (bnot v58)) (igt s0 0)) (fget k1 (isub .i64 s0 1)) with
        | none => (rw [h60] at h; cases h)
        | some v61 =>
          simp only [h60] at h
          have f59 := fun (q0 : (bnot v58) = false) (q1 : (igt s0 0) = true) => iaddr_F (e := e_api_Cell) (gOpt_getD (⟨0, 0⟩ : api_Cell) h60 (band_mk (bnot_mk q0) q1))
          have f63 := u_additivelaw34_step_ok (v61.getD (⟨0, 0⟩ : api_Cell)) v55
          by_cases c64 : (bor (bnot v58) (band (igt s0 0) (bnot (u_additivelaw34_step (v61.getD (⟨0, 0⟩ : api_Cell)) v55)))) = true
          · rw [if_pos c64] at h
            cases h
            show LK env [] 0 [3, 7, 13] c5_L1 (some (t_additivelaw34_CombShortest_L1_st _ _ _)) = some (t_additivelaw34_CombShortest_L1_out _ _ _)
            simp only [t_additivelaw34_CombShortest_L1_st, t_additivelaw34_CombShortest_L1_out]
            rw [LK_step]
            rcases tof v58 with a65 | a65
            · rcases tof (igt s0 0) with a66 | a66
              · rcases tof (u_additivelaw34_step (v61.getD (⟨0, 0⟩ : api_Cell)) v55) with a67 | a67
                · simp [c52, a65, a66, a67] at c64
                · simp (maxSteps := 4000000) [c52, a65, a66, a67, f53, f56, f59, f63, e_i64, e_sl_api_Row, e_sl_api_Run, e_additiveref34_seen, e_api_Cell, e_api_Region, e_api_Row, e_api_Run, ↓c5_L0_u, ↓c5_L1_u, c5_0, c5_1, c5_2, c5_3, c5_4, c5_5, c5_6, c5_7, c5_8, c5_9, c5_10, c5_11, c5_13, c5_14, c5_15, c5_16, c5_17, c5_18, c5_19, c5_20, c5_21, c5_23]
              · simp [c52, a65, a66] at c64
            · simp (maxSteps := 4000000) [c52, a65, f53, f56, f59, f63, e_i64, e_sl_api_Row, e_sl_api_Run, e_additiveref34_seen, e_api_Cell, e_api_Region, e_api_Row, e_api_Run, ↓c5_L0_u, ↓c5_L1_u, c5_0, c5_1, c5_2, c5_3, c5_4, c5_5, c5_6, c5_7, c5_8, c5_9, c5_10, c5_11, c5_13, c5_14, c5_15, c5_16, c5_17, c5_18, c5_19, c5_20, c5_21, c5_23]
          · rw [if_neg c64] at h
            rw [Bool.not_eq_true] at c64
            cases h
            show LK env [] 0 [3, 7, 13] c5_L1 (some (t_additivelaw34_CombShortest_L1_st _ _ _)) = LK env [] 0 [3, 7, 13] c5_L1 (some (t_additivelaw34_CombShortest_L1_st _ _ _))
            simp only [t_additivelaw34_CombShortest_L1_st]
            rw [LK_step]
            rcases tof v58 with a68 | a68
            · rcases tof (igt s0 0) with a69 | a69
              · rcases tof (u_additivelaw34_step (v61.getD (⟨0, 0⟩ : api_Cell)) v55) with a70 | a70
                · simp (maxSteps := 4000000) [c52, a68, a69, a70, f53, f56, f59, f63, e_i64, e_sl_api_Row, e_sl_api_Run, e_additiveref34_seen, e_api_Cell, e_api_Region, e_api_Row, e_api_Run, ↓c5_L0_u, ↓c5_L1_u, c5_0, c5_1, c5_2, c5_3, c5_4, c5_5, c5_6, c5_7, c5_8, c5_9, c5_10, c5_11, c5_13, c5_14, c5_15, c5_16, c5_17, c5_18, c5_19, c5_20, c5_21, c5_23]
                · simp [c52, a68, a69, a70] at c64
              · simp (maxSteps := 4000000) [c52, a68, a69, f53, f56, f59, f63, e_i64, e_sl_api_Row, e_sl_api_Run, e_additiveref34_seen, e_api_Cell, e_api_Region, e_api_Row, e_api_Run, ↓c5_L0_u, ↓c5_L1_u, c5_0, c5_1, c5_2, c5_3, c5_4, c5_5, c5_6, c5_7, c5_8, c5_9, c5_10, c5_11, c5_13, c5_14, c5_15, c5_16, c5_17, c5_18, c5_19, c5_20, c5_21, c5_23]
            · simp [c52, a68] at c64
  · rw [if_neg c52] at h
    rw [Bool.not_eq_true] at c52
    cases h
    show LK env [] 0 [3, 7, 13] c5_L1 (some (t_additivelaw34_CombShortest_L1_st _ _ _)) = some (t_additivelaw34_CombShortest_L1_out _ _ _)
    simp only [t_additivelaw34_CombShortest_L1_st, t_additivelaw34_CombShortest_L1_out]
    rw [LK_step]
    simp (maxSteps := 4000000) [c52, e_i64, e_sl_api_Row, e_sl_api_Run, e_additiveref34_seen, e_api_Cell, e_api_Region, e_api_Row, e_api_Run, ↓c5_L0_u, ↓c5_L1_u, c5_0, c5_1, c5_2, c5_3, c5_4, c5_5, c5_6, c5_7, c5_8, c5_9, c5_10, c5_11, c5_13, c5_14, c5_15, c5_16, c5_17, c5_18, c5_19, c5_20, c5_21, c5_23]) bigN s r h
def t_additivelaw34_CombShortest (p0 : api_Region) (p1 : api_Cell) (p2 : api_Cell) : Option Bool := (match t_additivelaw18_Small p0 with
 | none => none
 | some v3 => (if (bnot v3) = true then some u_additivelaw34_awake
 else (match t_comb_Path p0 p1 p2 with
 | none => none
 | some v8 => (match t_additiveref18_Cells p0 with
 | none => none
 | some v11 => (match t_additivelaw34_levels v11 p1 with
 | none => none
 | some v14 => (match loopT (t_additivelaw34_CombShortest_L0 p0 p1 p2 v8.1 v8.2 v11 v14) bigN ((-1), 0) with
 | none => none
 | some v24 => (if (bnot v8.2) = true then some (band (band (ilt v24 0) (ieq (flen v8.1) 0)) u_additivelaw34_awake)
 else (match gOpt (bnot (bor (ine (flen v8.1) (iadd .i64 v24 1)) (ilt v24 0))) (fget v8.1 0) with
 | none => none
 | some v30 => (match gOpt (bnot (bor (bor (ine (flen v8.1) (iadd .i64 v24 1)) (ilt v24 0)) (bnot (band (ieq (((v30.getD (⟨0, 0⟩ : api_Cell))).X) p1.X) (band (ieq (((v30.getD (⟨0, 0⟩ : api_Cell))).Y) p1.Y) true))))) (fget v8.1 (isub .i64 (flen v8.1) 1)) with
 | none => none
 | some v33 => (if (bor (bor (bor (ine (flen v8.1) (iadd .i64 v24 1)) (ilt v24 0)) (bnot (band (ieq (((v30.getD (⟨0, 0⟩ : api_Cell))).X) p1.X) (band (ieq (((v30.getD (⟨0, 0⟩ : api_Cell))).Y) p1.Y) true)))) (bnot (band (ieq (((v33.getD (⟨0, 0⟩ : api_Cell))).X) p2.X) (band (ieq (((v33.getD (⟨0, 0⟩ : api_Cell))).Y) p2.Y) true)))) = true then some false
 else (match loopT (t_additivelaw34_CombShortest_L1 p0 v8.1) bigN 0 with
 | none => none
 | some v49 => (match v49 with
 | .inl v49x => some v49x
 | .inr v49x => some u_additivelaw34_awake))))))))))))
theorem t_additivelaw34_CombShortest_ok {p0 : api_Region} {p1 : api_Cell} {p2 : api_Cell} {r : Bool} (h : t_additivelaw34_CombShortest p0 p1 p2 = some r) : FC env 5 [.agg [encF e_api_Row p0.Rows], .agg [.int .i64 p1.X, .int .i64 p1.Y], .agg [.int .i64 p2.X, .int .i64 p2.Y]] none = some (.bool r, fun _ => none) := by
  unfold t_additivelaw34_CombShortest at h
  cases h2 : t_additivelaw18_Small p0 with
  | none => (rw [h2] at h; cases h)
  | some v3 =>
    simp only [h2] at h
    have f1 := t_additivelaw18_Small_ok h2
    by_cases c4 : (bnot v3) = true
    · rw [if_pos c4] at h
      have f5 := u_additivelaw34_awake_ok 
      cases h
      refine FC_pure (lf := lf5) rfl rfl rfl ?_
      simp only [lf5, lc5, c5_0, c5_1, c5_2, c5_3, c5_4, c5_5, c5_6, c5_7, c5_8, c5_9, c5_10, c5_11, c5_13, c5_14, c5_15, c5_16, c5_17, c5_18, c5_19, c5_20, c5_21, c5_23]
      rcases tof v3 with a6 | a6
      · simp [a6] at c4
      · simp (maxSteps := 4000000) [a6, f1, f5, e_i64, e_sl_api_Row, e_sl_api_Run, e_additiveref34_seen, e_api_Cell, e_api_Region, e_api_Row, e_api_Run, ↓c5_L0_u, ↓c5_L1_u]
    · rw [if_neg c4] at h
      rw [Bool.not_eq_true] at c4
      cases h8 : t_comb_Path p0 p1 p2 with
      | none => (rw [h8] at h; cases h)
      | some v9 =>
        simp only [h8] at h
        have f7 := t_comb_Path_ok h8
        cases h11 : t_additiveref18_Cells p0 with
        | none => (rw [h11] at h; cases h)
        | some v12 =>
          simp only [h11] at h
          have f10 := t_additiveref18_Cells_ok h11
          cases h14 : t_additivelaw34_levels v12 p1 with
          | none => (rw [h14] at h; cases h)
          | some v15 =>
            simp only [h14] at h
            have f13 := t_additivelaw34_levels_ok h14
            cases h28 : loopT (t_additivelaw34_CombShortest_L0 p0 p1 p2 v9.1 v9.2 v12 v15) bigN ((-1), 0) with
            | none => (rw [h28] at h; cases h)
            | some v29 =>
              simp only [h28] at h
              have f30 := t_additivelaw34_CombShortest_L0_ok h28
              simp only [t_additivelaw34_CombShortest_L0_st, t_additivelaw34_CombShortest_L0_out] at f30
              try simp only [fcase_nil, fcase_lst, fcase_fsnoc, fcase_fapp, fcase_fset, fcase_frep, fcase_flit, fcase_flst] at f30
              by_cases c31 : (bnot v9.2) = true
              · rw [if_pos c31] at h
                have f32 := u_additivelaw34_awake_ok 
                cases h
                refine FC_pure (lf := lf5) rfl rfl rfl ?_
                simp only [lf5, lc5, c5_0, c5_1, c5_2, c5_3, c5_4, c5_5, c5_6, c5_7, c5_8, c5_9, c5_10, c5_11, c5_13, c5_14, c5_15, c5_16, c5_17, c5_18, c5_19, c5_20, c5_21, c5_23]
                rcases tof v3 with a33 | a33
                · rcases tof v9.2 with a34 | a34
                  · simp [a33, a34] at c31
                  · rcases tof (ilt v29 0) with a35 | a35
                    · rcases tof (ieq (flen v9.1) 0) with a36 | a36
                      · try simp only [a33, a34, a35, a36] at f30
                        simp (maxSteps := 4000000) [a33, a34, a35, a36, f1, f7, f10, f13, f30, f32, e_i64, e_sl_api_Row, e_sl_api_Run, e_additiveref34_seen, e_api_Cell, e_api_Region, e_api_Row, e_api_Run, ↓c5_L0_u, ↓c5_L1_u]
                      · try simp only [a33, a34, a35, a36] at f30
                        simp (maxSteps := 4000000) [a33, a34, a35, a36, f1, f7, f10, f13, f30, f32, e_i64, e_sl_api_Row, e_sl_api_Run, e_additiveref34_seen, e_api_Cell, e_api_Region, e_api_Row, e_api_Run, ↓c5_L0_u, ↓c5_L1_u]
                    · try simp only [a33, a34, a35] at f30
                      simp (maxSteps := 4000000) [a33, a34, a35, f1, f7, f10, f13, f30, f32, e_i64, e_sl_api_Row, e_sl_api_Run, e_additiveref34_seen, e_api_Cell, e_api_Region, e_api_Row, e_api_Run, ↓c5_L0_u, ↓c5_L1_u]
                · simp [a33] at c4
              · rw [if_neg c31] at h
                rw [Bool.not_eq_true] at c31
                cases h38 : gOpt (bnot (bor (ine (flen v9.1) (iadd .i64 v29 1)) (ilt v29 0))) (fget v9.1 0) with
                | none => (rw [h38] at h; cases h)
                | some v39 =>
                  simp only [h38] at h
                  have f37 := fun (q0 : (bor (ine (flen v9.1) (iadd .i64 v29 1)) (ilt v29 0)) = false) => iaddr_F (e := e_api_Cell) (gOpt_getD (⟨0, 0⟩ : api_Cell) h38 (bnot_mk q0))
                  cases h41 : gOpt (bnot (bor (bor (ine (flen v9.1) (iadd .i64 v29 1)) (ilt v29 0)) (bnot (band (ieq (((v39.getD (⟨0, 0⟩ : api_Cell))).X) p1.X) (band (ieq (((v39.getD (⟨0, 0⟩ : api_Cell))).Y) p1.Y) true))))) (fget v9.1 (isub .i64 (flen v9.1) 1)) with
                  | none => (rw [h41] at h; cases h)
                  | some v42 =>
                    simp only [h41] at h
                    have f40 := fun (q0 : (bor (bor (ine (flen v9.1) (iadd .i64 v29 1)) (ilt v29 0)) (bnot (band (ieq (((v39.getD (⟨0, 0⟩ : api_Cell))).X) p1.X) (band (ieq (((v39.getD (⟨0, 0⟩ : api_Cell))).Y) p1.Y) true)))) = false) => iaddr_F (e := e_api_Cell) (gOpt_getD (⟨0, 0⟩ : api_Cell) h41 (bnot_mk q0))
                    by_cases c43 : (bor (bor (bor (ine (flen v9.1) (iadd .i64 v29 1)) (ilt v29 0)) (bnot (band (ieq (((v39.getD (⟨0, 0⟩ : api_Cell))).X) p1.X) (band (ieq (((v39.getD (⟨0, 0⟩ : api_Cell))).Y) p1.Y) true)))) (bnot (band (ieq (((v42.getD (⟨0, 0⟩ : api_Cell))).X) p2.X) (band (ieq (((v42.getD (⟨0, 0⟩ : api_Cell))).Y) p2.Y) true)))) = true
                    · rw [if_pos c43] at h
                      cases h
                      refine FC_pure (lf := lf5) rfl rfl rfl ?_
                      simp only [lf5, lc5, c5_0, c5_1, c5_2, c5_3, c5_4, c5_5, c5_6, c5_7, c5_8, c5_9, c5_10, c5_11, c5_13, c5_14, c5_15, c5_16, c5_17, c5_18, c5_19, c5_20, c5_21, c5_23]
                      rcases tof v3 with a44 | a44
                      · rcases tof v9.2 with a45 | a45
                        · rcases tof (ine (flen v9.1) (iadd .i64 v29 1)) with a46 | a46
                          · try simp only [a44, a45, a46] at f30
                            simp (maxSteps := 4000000) [a44, a45, a46, f1, f7, f10, f13, f30, f37, f40, e_i64, e_sl_api_Row, e_sl_api_Run, e_additiveref34_seen, e_api_Cell, e_api_Region, e_api_Row, e_api_Run, ↓c5_L0_u, ↓c5_L1_u]
                          · rcases tof (ilt v29 0) with a47 | a47
                            · try simp only [a44, a45, a46, a47] at f30
                              simp (maxSteps := 4000000) [a44, a45, a46, a47, f1, f7, f10, f13, f30, f37, f40, e_i64, e_sl_api_Row, e_sl_api_Run, e_additiveref34_seen, e_api_Cell, e_api_Region, e_api_Row, e_api_Run, ↓c5_L0_u, ↓c5_L1_u]
                            · rcases tof (ieq (((v39.getD (⟨0, 0⟩ : api_Cell))).X) p1.X) with a48 | a48
                              · rcases tof (ieq (((v39.getD (⟨0, 0⟩ : api_Cell))).Y) p1.Y) with a49 | a49
                                · rcases tof (ieq (((v42.getD (⟨0, 0⟩ : api_Cell))).X) p2.X) with a50 | a50
                                  · rcases tof (ieq (((v42.getD (⟨0, 0⟩ : api_Cell))).Y) p2.Y) with a51 | a51
                                    · simp [a44, a45, a46, a47, a48, a49, a50, a51] at c43
                                    · try simp only [a44, a45, a46, a47, a48, a49, a50, a51] at f30
                                      simp (maxSteps := 4000000) [a44, a45, a46, a47, a48, a49, a50, a51, f1, f7, f10, f13, f30, f37, f40, e_i64, e_sl_api_Row, e_sl_api_Run, e_additiveref34_seen, e_api_Cell, e_api_Region, e_api_Row, e_api_Run, ↓c5_L0_u, ↓c5_L1_u]
                                  · try simp only [a44, a45, a46, a47, a48, a49, a50] at f30
                                    simp (maxSteps := 4000000) [a44, a45, a46, a47, a48, a49, a50, f1, f7, f10, f13, f30, f37, f40, e_i64, e_sl_api_Row, e_sl_api_Run, e_additiveref34_seen, e_api_Cell, e_api_Region, e_api_Row, e_api_Run, ↓c5_L0_u, ↓c5_L1_u]
                                · try simp only [a44, a45, a46, a47, a48, a49] at f30
                                  simp (maxSteps := 4000000) [a44, a45, a46, a47, a48, a49, f1, f7, f10, f13, f30, f37, f40, e_i64, e_sl_api_Row, e_sl_api_Run, e_additiveref34_seen, e_api_Cell, e_api_Region, e_api_Row, e_api_Run, ↓c5_L0_u, ↓c5_L1_u]
                              · try simp only [a44, a45, a46, a47, a48] at f30
                                simp (maxSteps := 4000000) [a44, a45, a46, a47, a48, f1, f7, f10, f13, f30, f37, f40, e_i64, e_sl_api_Row, e_sl_api_Run, e_additiveref34_seen, e_api_Cell, e_api_Region, e_api_Row, e_api_Run, ↓c5_L0_u, ↓c5_L1_u]
                        · simp [a44, a45] at c31
                      · simp [a44] at c4
                    · rw [if_neg c43] at h
                      rw [Bool.not_eq_true] at c43
                      cases h71 : loopT (t_additivelaw34_CombShortest_L1 p0 v9.1) bigN 0 with
                      | none => (rw [h71] at h; cases h)
                      | some v72 =>
                        simp only [h71] at h
                        have f73 := t_additivelaw34_CombShortest_L1_ok h71
                        cases v72 with
                        | inl v72x =>
                          try simp only at h
                          simp only [t_additivelaw34_CombShortest_L1_st, t_additivelaw34_CombShortest_L1_out] at f73
                          try simp only [fcase_nil, fcase_lst, fcase_fsnoc, fcase_fapp, fcase_fset, fcase_frep, fcase_flit, fcase_flst] at f73
                          cases h
                          refine FC_pure (lf := lf5) rfl rfl rfl ?_
                          simp only [lf5, lc5, c5_0, c5_1, c5_2, c5_3, c5_4, c5_5, c5_6, c5_7, c5_8, c5_9, c5_10, c5_11, c5_13, c5_14, c5_15, c5_16, c5_17, c5_18, c5_19, c5_20, c5_21, c5_23]
                          rcases tof v3 with a74 | a74
                          · rcases tof v9.2 with a75 | a75
                            · rcases tof (ine (flen v9.1) (iadd .i64 v29 1)) with a76 | a76
                              · simp [a74, a75, a76] at c43
                              · rcases tof (ilt v29 0) with a77 | a77
                                · simp [a74, a75, a76, a77] at c43
                                · rcases tof (ieq (((v39.getD (⟨0, 0⟩ : api_Cell))).X) p1.X) with a78 | a78
                                  · rcases tof (ieq (((v39.getD (⟨0, 0⟩ : api_Cell))).Y) p1.Y) with a79 | a79
                                    · rcases tof (ieq (((v42.getD (⟨0, 0⟩ : api_Cell))).X) p2.X) with a80 | a80
                                      · rcases tof (ieq (((v42.getD (⟨0, 0⟩ : api_Cell))).Y) p2.Y) with a81 | a81
                                        · try simp only [a74, a75, a76, a77, a78, a79, a80, a81] at f30 f73
                                          simp (maxSteps := 4000000) [a74, a75, a76, a77, a78, a79, a80, a81, f1, f7, f10, f13, f30, f37, f40, f73, e_i64, e_sl_api_Row, e_sl_api_Run, e_additiveref34_seen, e_api_Cell, e_api_Region, e_api_Row, e_api_Run, ↓c5_L0_u, ↓c5_L1_u]
                                        · simp [a74, a75, a76, a77, a78, a79, a80, a81] at c43
                                      · simp [a74, a75, a76, a77, a78, a79, a80] at c43
                                    · simp [a74, a75, a76, a77, a78, a79] at c43
                                  · simp [a74, a75, a76, a77, a78] at c43
                            · simp [a74, a75] at c31
                          · simp [a74] at c4
                        | inr v72x =>
                          try simp only at h
                          simp only [t_additivelaw34_CombShortest_L1_st, t_additivelaw34_CombShortest_L1_out] at f73
                          try simp only [fcase_nil, fcase_lst, fcase_fsnoc, fcase_fapp, fcase_fset, fcase_frep, fcase_flit, fcase_flst] at f73
                          have f82 := u_additivelaw34_awake_ok 
                          cases h
                          refine FC_pure (lf := lf5) rfl rfl rfl ?_
                          simp only [lf5, lc5, c5_0, c5_1, c5_2, c5_3, c5_4, c5_5, c5_6, c5_7, c5_8, c5_9, c5_10, c5_11, c5_13, c5_14, c5_15, c5_16, c5_17, c5_18, c5_19, c5_20, c5_21, c5_23]
                          rcases tof v3 with a83 | a83
                          · rcases tof v9.2 with a84 | a84
                            · rcases tof (ine (flen v9.1) (iadd .i64 v29 1)) with a85 | a85
                              · simp [a83, a84, a85] at c43
                              · rcases tof (ilt v29 0) with a86 | a86
                                · simp [a83, a84, a85, a86] at c43
                                · rcases tof (ieq (((v39.getD (⟨0, 0⟩ : api_Cell))).X) p1.X) with a87 | a87
                                  · rcases tof (ieq (((v39.getD (⟨0, 0⟩ : api_Cell))).Y) p1.Y) with a88 | a88
                                    · rcases tof (ieq (((v42.getD (⟨0, 0⟩ : api_Cell))).X) p2.X) with a89 | a89
                                      · rcases tof (ieq (((v42.getD (⟨0, 0⟩ : api_Cell))).Y) p2.Y) with a90 | a90
                                        · try simp only [a83, a84, a85, a86, a87, a88, a89, a90] at f30 f73
                                          simp (maxSteps := 4000000) [a83, a84, a85, a86, a87, a88, a89, a90, f1, f7, f10, f13, f30, f37, f40, f73, f82, e_i64, e_sl_api_Row, e_sl_api_Run, e_additiveref34_seen, e_api_Cell, e_api_Region, e_api_Row, e_api_Run, ↓c5_L0_u, ↓c5_L1_u]
                                        · simp [a83, a84, a85, a86, a87, a88, a89, a90] at c43
                                      · simp [a83, a84, a85, a86, a87, a88, a89] at c43
                                    · simp [a83, a84, a85, a86, a87, a88] at c43
                                  · simp [a83, a84, a85, a86, a87] at c43
                            · simp [a83, a84] at c31
                          · simp [a83] at c4

/-! comb.ok -/
def u_comb_ok (p0 : api_Cell) : Bool := (band (band (band (ige p0.X (-4096)) (ilt p0.X 4096)) (ige p0.Y (-4096))) (ilt p0.Y 4096))
def t_comb_ok (p0 : api_Cell) : Option Bool := some (u_comb_ok p0)
theorem u_comb_ok_ok (p0 : api_Cell) : FC env 51 [.agg [.int .i64 p0.X, .int .i64 p0.Y]] none = some (.bool (u_comb_ok p0), fun _ => none) := by
  unfold u_comb_ok
  refine FC_pure (lf := lf51) rfl rfl rfl ?_
  simp only [lf51, lc51, c51_0, c51_1]
  rcases tof (ige p0.X (-4096)) with a1 | a1
  · rcases tof (ilt p0.X 4096) with a2 | a2
    · rcases tof (ige p0.Y (-4096)) with a3 | a3
      · simp (maxSteps := 4000000) [a1, a2, a3, e_i64, e_sl_api_Row, e_sl_api_Run, e_additiveref34_seen, e_api_Cell, e_api_Region, e_api_Row, e_api_Run]
      · simp (maxSteps := 4000000) [a1, a2, a3, e_i64, e_sl_api_Row, e_sl_api_Run, e_additiveref34_seen, e_api_Cell, e_api_Region, e_api_Row, e_api_Run]
    · simp (maxSteps := 4000000) [a1, a2, e_i64, e_sl_api_Row, e_sl_api_Run, e_additiveref34_seen, e_api_Cell, e_api_Region, e_api_Row, e_api_Run]
  · simp (maxSteps := 4000000) [a1, e_i64, e_sl_api_Row, e_sl_api_Run, e_additiveref34_seen, e_api_Cell, e_api_Region, e_api_Row, e_api_Run]
theorem t_comb_ok_ok {p0 : api_Cell} {r : Bool} (h : t_comb_ok p0 = some r) : FC env 51 [.agg [.int .i64 p0.X, .int .i64 p0.Y]] none = some (.bool r, fun _ => none) := by
  cases h
  exact u_comb_ok_ok _

/-! comb.Straight -/
theorem c23_L0_u (Γ : Env) (ps : List Nat) (σ : St) : EC Γ ps 0 c23_L0 σ = EC Γ ps 0 (.seq (.seq (.reg false c23_4) (.cond (.t 18) .skip (.seq (.trim [5]) (.exit 0)))) (.blk 1 (.seq (.blk 2 (.seq (.reg false c23_5) (.cond (.t 23) (.reg false c23_6) (.seq (.reg false c23_7) (.cond (.t 33) (.reg false c23_8) (.seq (.reg false c23_9) (.cond (.t 43) (.reg false c23_10) (.reg false c23_11)))))))) (.reg false c23_12)))) σ := rfl
def t_comb_Straight_L0 (k0 : api_Cell) (s : (api_Cell × (FS api_Cell))) : Option (LR (api_Cell × (FS api_Cell)) (FS api_Cell)) := match s with
 | (s0, s1) => (if (bnot (band (ieq s0.X k0.X) (band (ieq s0.Y k0.Y) true))) = true then (if (ilt s0.X k0.X) = true then (if fits 16 ((flen s1) + 1) = true then some (.nx ((⟨(iadd .i64 s0.X 1), s0.Y⟩ : api_Cell), (fsnoc s1 (⟨(iadd .i64 s0.X 1), s0.Y⟩ : api_Cell)))) else none)
 else (if (igt s0.X k0.X) = true then (if fits 16 ((flen s1) + 1) = true then some (.nx ((⟨(isub .i64 s0.X 1), s0.Y⟩ : api_Cell), (fsnoc s1 (⟨(isub .i64 s0.X 1), s0.Y⟩ : api_Cell)))) else none)
 else (if (ilt s0.Y k0.Y) = true then (if fits 16 ((flen s1) + 1) = true then some (.nx ((⟨s0.X, (iadd .i64 s0.Y 1)⟩ : api_Cell), (fsnoc s1 (⟨s0.X, (iadd .i64 s0.Y 1)⟩ : api_Cell)))) else none)
 else (if fits 16 ((flen s1) + 1) = true then some (.nx ((⟨s0.X, (isub .i64 s0.Y 1)⟩ : api_Cell), (fsnoc s1 (⟨s0.X, (isub .i64 s0.Y 1)⟩ : api_Cell)))) else none))))
 else some (.dn s1))
def t_comb_Straight_L0_st (k0 : api_Cell) (s : (api_Cell × (FS api_Cell))) : St := match s with
 | (s0, s1) => ⟨fr [(2, .ptr 2 0 0), (3, .ptr 3 0 0), (5, .arr 5 0 0 s1.l.length)], hl [(2, .box 0 [.int .i64 s0.X, .int .i64 s0.Y]), (3, .box 0 [.int .i64 k0.X, .int .i64 k0.Y]), (5, .arr 0 2 26 (cellsE e_api_Cell s1.l) false)]⟩
def t_comb_Straight_L0_out (k0 : api_Cell) (x : (FS api_Cell)) : LE × St := (.exit 0, ⟨fr [(5, .arr 5 0 0 x.l.length)], hl [(5, .arr 0 2 26 (cellsE e_api_Cell x.l) false)]⟩)
theorem t_comb_Straight_L0_ok {k0 : api_Cell} {s : (api_Cell × (FS api_Cell))} {r : (FS api_Cell)} (h : loopT (t_comb_Straight_L0 k0) bigN s = some r) : LK env [] 0 [2, 3, 5] c23_L0 (some (t_comb_Straight_L0_st k0 s)) = some (t_comb_Straight_L0_out k0 r) := loop_walk (st := t_comb_Straight_L0_st k0) (out := t_comb_Straight_L0_out k0) (by
  clear h s r
  rintro ⟨s0, s1⟩ x h
  simp only [t_comb_Straight_L0] at h
  by_cases c7 : (bnot (band (ieq s0.X k0.X) (band (ieq s0.Y k0.Y) true))) = true
  · rw [if_pos c7] at h
    by_cases c8 : (ilt s0.X k0.X) = true
    · rw [if_pos c8] at h
      by_cases h10 : fits 16 ((flen s1) + 1) = true
      · rw [if_pos h10] at h
        have f9 := fun g0 H y => @app_row1 _ _ e_api_Cell _ s1 (⟨(iadd .i64 s0.X 1), s0.Y⟩ : api_Cell) 16 h10 (by decide) g0 H 5 0 26 y
        simp only [e_api_Cell] at f9
        cases h
        show LK env [] 0 [2, 3, 5] c23_L0 (some (t_comb_Straight_L0_st _ _)) = LK env [] 0 [2, 3, 5] c23_L0 (some (t_comb_Straight_L0_st _ _))
        simp only [t_comb_Straight_L0_st]
        rw [LK_step]
        rcases tof (ieq s0.X k0.X) with a11 | a11
        · rcases tof (ieq s0.Y k0.Y) with a12 | a12
          · simp [a11, a12] at c7
          · simp (maxSteps := 4000000) [a11, a12, c8, f9, e_i64, e_sl_api_Row, e_sl_api_Run, e_additiveref34_seen, e_api_Cell, e_api_Region, e_api_Row, e_api_Run, ↓c23_L0_u, c23_0, c23_1, c23_2, c23_3, c23_4, c23_5, c23_6, c23_7, c23_8, c23_9, c23_10, c23_11, c23_12, c23_14]
        · simp (maxSteps := 4000000) [a11, c8, f9, e_i64, e_sl_api_Row, e_sl_api_Run, e_additiveref34_seen, e_api_Cell, e_api_Region, e_api_Row, e_api_Run, ↓c23_L0_u, c23_0, c23_1, c23_2, c23_3, c23_4, c23_5, c23_6, c23_7, c23_8, c23_9, c23_10, c23_11, c23_12, c23_14]
      · rw [if_neg h10] at h; cases h
    · rw [if_neg c8] at h
      rw [Bool.not_eq_true] at c8
      by_cases c13 : (igt s0.X k0.X) = true
      · rw [if_pos c13] at h
        by_cases h15 : fits 16 ((flen s1) + 1) = true
        · rw [if_pos h15] at h
          have f14 := fun g0 H y => @app_row1 _ _ e_api_Cell _ s1 (⟨(isub .i64 s0.X 1), s0.Y⟩ : api_Cell) 16 h15 (by decide) g0 H 5 0 26 y
          simp only [e_api_Cell] at f14
          cases h
          show LK env [] 0 [2, 3, 5] c23_L0 (some (t_comb_Straight_L0_st _ _)) = LK env [] 0 [2, 3, 5] c23_L0 (some (t_comb_Straight_L0_st _ _))
          simp only [t_comb_Straight_L0_st]
          rw [LK_step]
          rcases tof (ieq s0.X k0.X) with a16 | a16
          · rcases tof (ieq s0.Y k0.Y) with a17 | a17
            · simp [a16, a17] at c7
            · simp (maxSteps := 4000000) [a16, a17, c8, c13, f14, e_i64, e_sl_api_Row, e_sl_api_Run, e_additiveref34_seen, e_api_Cell, e_api_Region, e_api_Row, e_api_Run, ↓c23_L0_u, c23_0, c23_1, c23_2, c23_3, c23_4, c23_5, c23_6, c23_7, c23_8, c23_9, c23_10, c23_11, c23_12, c23_14]
          · simp (maxSteps := 4000000) [a16, c8, c13, f14, e_i64, e_sl_api_Row, e_sl_api_Run, e_additiveref34_seen, e_api_Cell, e_api_Region, e_api_Row, e_api_Run, ↓c23_L0_u, c23_0, c23_1, c23_2, c23_3, c23_4, c23_5, c23_6, c23_7, c23_8, c23_9, c23_10, c23_11, c23_12, c23_14]
        · rw [if_neg h15] at h; cases h
      · rw [if_neg c13] at h
        rw [Bool.not_eq_true] at c13
        by_cases c18 : (ilt s0.Y k0.Y) = true
        · rw [if_pos c18] at h
          by_cases h20 : fits 16 ((flen s1) + 1) = true
          · rw [if_pos h20] at h
            have f19 := fun g0 H y => @app_row1 _ _ e_api_Cell _ s1 (⟨s0.X, (iadd .i64 s0.Y 1)⟩ : api_Cell) 16 h20 (by decide) g0 H 5 0 26 y
            simp only [e_api_Cell] at f19
            cases h
            show LK env [] 0 [2, 3, 5] c23_L0 (some (t_comb_Straight_L0_st _ _)) = LK env [] 0 [2, 3, 5] c23_L0 (some (t_comb_Straight_L0_st _ _))
            simp only [t_comb_Straight_L0_st]
            rw [LK_step]
            rcases tof (ieq s0.X k0.X) with a21 | a21
            · rcases tof (ieq s0.Y k0.Y) with a22 | a22
              · simp [a21, a22] at c7
              · simp (maxSteps := 4000000) [a21, a22, c8, c13, c18, f19, e_i64, e_sl_api_Row, e_sl_api_Run, e_additiveref34_seen, e_api_Cell, e_api_Region, e_api_Row, e_api_Run, ↓c23_L0_u, c23_0, c23_1, c23_2, c23_3, c23_4, c23_5, c23_6, c23_7, c23_8, c23_9, c23_10, c23_11, c23_12, c23_14]
            · simp (maxSteps := 4000000) [a21, c8, c13, c18, f19, e_i64, e_sl_api_Row, e_sl_api_Run, e_additiveref34_seen, e_api_Cell, e_api_Region, e_api_Row, e_api_Run, ↓c23_L0_u, c23_0, c23_1, c23_2, c23_3, c23_4, c23_5, c23_6, c23_7, c23_8, c23_9, c23_10, c23_11, c23_12, c23_14]
          · rw [if_neg h20] at h; cases h
        · rw [if_neg c18] at h
          rw [Bool.not_eq_true] at c18
          by_cases h24 : fits 16 ((flen s1) + 1) = true
          · rw [if_pos h24] at h
            have f23 := fun g0 H y => @app_row1 _ _ e_api_Cell _ s1 (⟨s0.X, (isub .i64 s0.Y 1)⟩ : api_Cell) 16 h24 (by decide) g0 H 5 0 26 y
            simp only [e_api_Cell] at f23
            cases h
            show LK env [] 0 [2, 3, 5] c23_L0 (some (t_comb_Straight_L0_st _ _)) = LK env [] 0 [2, 3, 5] c23_L0 (some (t_comb_Straight_L0_st _ _))
            simp only [t_comb_Straight_L0_st]
            rw [LK_step]
            rcases tof (ieq s0.X k0.X) with a25 | a25
            · rcases tof (ieq s0.Y k0.Y) with a26 | a26
              · simp [a25, a26] at c7
              · simp (maxSteps := 4000000) [a25, a26, c8, c13, c18, f23, e_i64, e_sl_api_Row, e_sl_api_Run, e_additiveref34_seen, e_api_Cell, e_api_Region, e_api_Row, e_api_Run, ↓c23_L0_u, c23_0, c23_1, c23_2, c23_3, c23_4, c23_5, c23_6, c23_7, c23_8, c23_9, c23_10, c23_11, c23_12, c23_14]
            · simp (maxSteps := 4000000) [a25, c8, c13, c18, f23, e_i64, e_sl_api_Row, e_sl_api_Run, e_additiveref34_seen, e_api_Cell, e_api_Region, e_api_Row, e_api_Run, ↓c23_L0_u, c23_0, c23_1, c23_2, c23_3, c23_4, c23_5, c23_6, c23_7, c23_8, c23_9, c23_10, c23_11, c23_12, c23_14]
          · rw [if_neg h24] at h; cases h
  · rw [if_neg c7] at h
    rw [Bool.not_eq_true] at c7
    cases h
    show LK env [] 0 [2, 3, 5] c23_L0 (some (t_comb_Straight_L0_st _ _)) = some (t_comb_Straight_L0_out _ _)
    simp only [t_comb_Straight_L0_st, t_comb_Straight_L0_out]
    rw [LK_step]
    rcases tof (ieq s0.X k0.X) with a27 | a27
    · rcases tof (ieq s0.Y k0.Y) with a28 | a28
      · simp (maxSteps := 4000000) [a27, a28, e_i64, e_sl_api_Row, e_sl_api_Run, e_additiveref34_seen, e_api_Cell, e_api_Region, e_api_Row, e_api_Run, ↓c23_L0_u, c23_0, c23_1, c23_2, c23_3, c23_4, c23_5, c23_6, c23_7, c23_8, c23_9, c23_10, c23_11, c23_12, c23_14]
      · simp [a27, a28] at c7
    · simp [a27] at c7) bigN s r h
def t_comb_Straight (p0 : api_Cell) (p1 : api_Cell) : Option (FS api_Cell) := (if (bor (bnot (u_comb_ok p0)) (bnot (u_comb_ok p1))) = true then some (FS.nil : (FS api_Cell))
 else (match loopT (t_comb_Straight_L0 p1) bigN (p0, (flit ([p0] : List api_Cell))) with
 | none => none
 | some v18 => some (flst v18)))
theorem t_comb_Straight_ok {p0 : api_Cell} {p1 : api_Cell} {r : (FS api_Cell)} (h : t_comb_Straight p0 p1 = some r) : FC env 23 [.agg [.int .i64 p0.X, .int .i64 p0.Y], .agg [.int .i64 p1.X, .int .i64 p1.Y]] none = some (encF e_api_Cell r, fun _ => none) := by
  unfold t_comb_Straight at h
  have f1 := u_comb_ok_ok p0
  have f2 := u_comb_ok_ok p1
  by_cases c3 : (bor (bnot (u_comb_ok p0)) (bnot (u_comb_ok p1))) = true
  · rw [if_pos c3] at h
    cases h
    refine FC_pure (lf := lf23) rfl rfl rfl ?_
    simp only [lf23, lc23, c23_0, c23_1, c23_2, c23_3, c23_4, c23_5, c23_6, c23_7, c23_8, c23_9, c23_10, c23_11, c23_12, c23_14]
    rcases tof (u_comb_ok p0) with a4 | a4
    · rcases tof (u_comb_ok p1) with a5 | a5
      · simp [a4, a5] at c3
      · simp (maxSteps := 4000000) [a4, a5, f1, f2, e_i64, e_sl_api_Row, e_sl_api_Run, e_additiveref34_seen, e_api_Cell, e_api_Region, e_api_Row, e_api_Run, ↓c23_L0_u]
    · simp (maxSteps := 4000000) [a4, f1, f2, e_i64, e_sl_api_Row, e_sl_api_Run, e_additiveref34_seen, e_api_Cell, e_api_Region, e_api_Row, e_api_Run, ↓c23_L0_u]
  · rw [if_neg c3] at h
    rw [Bool.not_eq_true] at c3
    have f6 : ∀ (H : Heap) (g0 : Nat), bslV H g0 1 2 26 (some [.int .i64 p0.X, .int .i64 p0.Y]) = some (.arr g0 (newVer H g0) 0 (flit ([p0] : List api_Cell)).l.length, upd H g0 (some (.arr (newVer H g0) 2 26 (cellsE e_api_Cell (flit ([p0] : List api_Cell)).l) false))) := fun H g0 => rfl
    cases h29 : loopT (t_comb_Straight_L0 p1) bigN (p0, (flit ([p0] : List api_Cell))) with
    | none => (rw [h29] at h; cases h)
    | some v30 =>
      simp only [h29] at h
      have f31 := t_comb_Straight_L0_ok h29
      simp only [t_comb_Straight_L0_st, t_comb_Straight_L0_out] at f31
      try simp only [fcase_nil, fcase_lst, fcase_fsnoc, fcase_fapp, fcase_fset, fcase_frep, fcase_flit, fcase_flst] at f31
      cases h
      refine FC_pure (lf := lf23) rfl rfl rfl ?_
      simp only [lf23, lc23, c23_0, c23_1, c23_2, c23_3, c23_4, c23_5, c23_6, c23_7, c23_8, c23_9, c23_10, c23_11, c23_12, c23_14]
      rcases tof (u_comb_ok p0) with a32 | a32
      · rcases tof (u_comb_ok p1) with a33 | a33
        · try simp only [a32, a33] at f31
          simp (maxSteps := 4000000) [a32, a33, f1, f2, f6, -bslV_1, f31, e_i64, e_sl_api_Row, e_sl_api_Run, e_additiveref34_seen, e_api_Cell, e_api_Region, e_api_Row, e_api_Run, ↓c23_L0_u, snap_rowD (e := e_api_Cell) (el := 26) (fz := false)]
        · simp [a32, a33] at c3
      · simp [a32] at c3

/-! additivelaw34.CombSymmetry -/
def t_additivelaw34_CombSymmetry (p0 : api_Region) (p1 : api_Cell) (p2 : api_Cell) : Option Bool := (match t_additivelaw18_Small p0 with
 | none => none
 | some v3 => (if (bnot v3) = true then some u_additivelaw34_awake
 else (match t_comb_Distance p0 p1 p2 with
 | none => none
 | some v8 => (match t_comb_Distance p0 p2 p1 with
 | none => none
 | some v11 => (match gOpt (bnot (ine v8 v11)) (t_region_Contains p0 p1) with
 | none => none
 | some v14 => (match gOpt (band (bnot (ine v8 v11)) (v14.getD false)) (t_comb_Distance p0 p1 p1) with
 | none => none
 | some v17 => (if (bor (ine v8 v11) (band (v14.getD false) (ine (v17.getD 0) 0))) = true then some false
 else (match gOpt (bnot (ilt v8 0)) (t_comb_Straight p1 p2) with
 | none => none
 | some v21 => some (band (bor (ilt v8 0) (ige v8 (isub .i64 (flen (v21.getD (FS.nil : (FS api_Cell)))) 1))) u_additivelaw34_awake)))))))))
theorem t_additivelaw34_CombSymmetry_ok {p0 : api_Region} {p1 : api_Cell} {p2 : api_Cell} {r : Bool} (h : t_additivelaw34_CombSymmetry p0 p1 p2 = some r) : FC env 6 [.agg [encF e_api_Row p0.Rows], .agg [.int .i64 p1.X, .int .i64 p1.Y], .agg [.int .i64 p2.X, .int .i64 p2.Y]] none = some (.bool r, fun _ => none) := by
  unfold t_additivelaw34_CombSymmetry at h
  cases h2 : t_additivelaw18_Small p0 with
  | none => (rw [h2] at h; cases h)
  | some v3 =>
    simp only [h2] at h
    have f1 := t_additivelaw18_Small_ok h2
    by_cases c4 : (bnot v3) = true
    · rw [if_pos c4] at h
      have f5 := u_additivelaw34_awake_ok 
      cases h
      refine FC_pure (lf := lf6) rfl rfl rfl ?_
      simp only [lf6, lc6, c6_0, c6_1, c6_2, c6_3, c6_4, c6_5, c6_6]
      rcases tof v3 with a6 | a6
      · simp [a6] at c4
      · simp (maxSteps := 4000000) [a6, f1, f5, e_i64, e_sl_api_Row, e_sl_api_Run, e_additiveref34_seen, e_api_Cell, e_api_Region, e_api_Row, e_api_Run]
    · rw [if_neg c4] at h
      rw [Bool.not_eq_true] at c4
      cases h8 : t_comb_Distance p0 p1 p2 with
      | none => (rw [h8] at h; cases h)
      | some v9 =>
        simp only [h8] at h
        have f7 := t_comb_Distance_ok h8
        cases h11 : t_comb_Distance p0 p2 p1 with
        | none => (rw [h11] at h; cases h)
        | some v12 =>
          simp only [h11] at h
          have f10 := t_comb_Distance_ok h11
          cases h14 : gOpt (bnot (ine v9 v12)) (t_region_Contains p0 p1) with
          | none => (rw [h14] at h; cases h)
          | some v15 =>
            simp only [h14] at h
            have f13 := fun (q0 : (ine v9 v12) = false) => t_region_Contains_ok (gOpt_getD false h14 (bnot_mk q0))
            cases h17 : gOpt (band (bnot (ine v9 v12)) (v15.getD false)) (t_comb_Distance p0 p1 p1) with
            | none => (rw [h17] at h; cases h)
            | some v18 =>
              simp only [h17] at h
              have f16 := fun (q0 : (ine v9 v12) = false) (q1 : (v15.getD false) = true) => t_comb_Distance_ok (gOpt_getD 0 h17 (band_mk (bnot_mk q0) q1))
              by_cases c19 : (bor (ine v9 v12) (band (v15.getD false) (ine (v18.getD 0) 0))) = true
              · rw [if_pos c19] at h
                cases h
                refine FC_pure (lf := lf6) rfl rfl rfl ?_
                simp only [lf6, lc6, c6_0, c6_1, c6_2, c6_3, c6_4, c6_5, c6_6]
                rcases tof v3 with a20 | a20
                · rcases tof (ine v9 v12) with a21 | a21
                  · simp (maxSteps := 4000000) [a20, a21, f1, f7, f10, f13, f16, e_i64, e_sl_api_Row, e_sl_api_Run, e_additiveref34_seen, e_api_Cell, e_api_Region, e_api_Row, e_api_Run]
                  · rcases tof (v15.getD false) with a22 | a22
                    · rcases tof (ine (v18.getD 0) 0) with a23 | a23
                      · simp (maxSteps := 4000000) [a20, a21, a22, a23, f1, f7, f10, f13, f16, e_i64, e_sl_api_Row, e_sl_api_Run, e_additiveref34_seen, e_api_Cell, e_api_Region, e_api_Row, e_api_Run]
                      · simp [a20, a21, a22, a23] at c19
                    · simp [a20, a21, a22] at c19
                · simp [a20] at c4
              · rw [if_neg c19] at h
                rw [Bool.not_eq_true] at c19
                cases h25 : gOpt (bnot (ilt v9 0)) (t_comb_Straight p1 p2) with
                | none => (rw [h25] at h; cases h)
                | some v26 =>
                  simp only [h25] at h
                  have f24 := fun (q0 : (ilt v9 0) = false) => t_comb_Straight_ok (gOpt_getD (FS.nil : (FS api_Cell)) h25 (bnot_mk q0))
                  have f27 := u_additivelaw34_awake_ok 
                  cases h
                  refine FC_pure (lf := lf6) rfl rfl rfl ?_
                  simp only [lf6, lc6, c6_0, c6_1, c6_2, c6_3, c6_4, c6_5, c6_6]
                  rcases tof v3 with a28 | a28
                  · rcases tof (ine v9 v12) with a29 | a29
                    · simp [a28, a29] at c19
                    · rcases tof (v15.getD false) with a30 | a30
                      · rcases tof (ine (v18.getD 0) 0) with a31 | a31
                        · simp [a28, a29, a30, a31] at c19
                        · rcases tof (ilt v9 0) with a32 | a32
                          · simp (maxSteps := 4000000) [a28, a29, a30, a31, a32, f1, f7, f10, f13, f16, f24, f27, e_i64, e_sl_api_Row, e_sl_api_Run, e_additiveref34_seen, e_api_Cell, e_api_Region, e_api_Row, e_api_Run]
                          · rcases tof (ige v9 (isub .i64 (flen (v26.getD (FS.nil : (FS api_Cell)))) 1)) with a33 | a33
                            · simp (maxSteps := 4000000) [a28, a29, a30, a31, a32, a33, f1, f7, f10, f13, f16, f24, f27, e_i64, e_sl_api_Row, e_sl_api_Run, e_additiveref34_seen, e_api_Cell, e_api_Region, e_api_Row, e_api_Run]
                            · simp (maxSteps := 4000000) [a28, a29, a30, a31, a32, a33, f1, f7, f10, f13, f16, f24, f27, e_i64, e_sl_api_Row, e_sl_api_Run, e_additiveref34_seen, e_api_Cell, e_api_Region, e_api_Row, e_api_Run]
                      · rcases tof (ilt v9 0) with a34 | a34
                        · simp (maxSteps := 4000000) [a28, a29, a30, a34, f1, f7, f10, f13, f16, f24, f27, e_i64, e_sl_api_Row, e_sl_api_Run, e_additiveref34_seen, e_api_Cell, e_api_Region, e_api_Row, e_api_Run]
                        · rcases tof (ige v9 (isub .i64 (flen (v26.getD (FS.nil : (FS api_Cell)))) 1)) with a35 | a35
                          · simp (maxSteps := 4000000) [a28, a29, a30, a34, a35, f1, f7, f10, f13, f16, f24, f27, e_i64, e_sl_api_Row, e_sl_api_Run, e_additiveref34_seen, e_api_Cell, e_api_Region, e_api_Row, e_api_Run]
                          · simp (maxSteps := 4000000) [a28, a29, a30, a34, a35, f1, f7, f10, f13, f16, f24, f27, e_i64, e_sl_api_Row, e_sl_api_Run, e_additiveref34_seen, e_api_Cell, e_api_Region, e_api_Row, e_api_Run]
                  · simp [a28] at c4
end Go.Proofs.Ytchiiiahgmfofaa
