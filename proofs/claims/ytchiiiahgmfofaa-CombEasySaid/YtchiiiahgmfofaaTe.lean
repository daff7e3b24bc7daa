/- Typed functions of this seat, each with the proof that the code computes it; by program (tg3.py). -/
import Derived.Test.YtchiiiahgmfofaaCode
import Derived.Test.YtchiiiahgmfofaaVt
import Derived.KernelRfl
namespace Go.Proofs.Ytchiiiahgmfofaa
open Go Go.Vv Go.Proofs
set_option linter.unusedSimpArgs false
set_option linter.unusedVariables false
set_option maxRecDepth 100000
set_option maxHeartbeats 4000000
def e_i64 (x : Int) : List AV := [.int .i64 x]
instance : EncOK 1 e_i64 := ⟨fun _ => rfl, fun _ => by simp [e_i64]⟩
structure api_Run where
  From : Int
  To : Int
def e_api_Run (x : api_Run) : List AV := [.int .i64 x.From, .int .i64 x.To]
instance : EncOK 2 e_api_Run := ⟨fun _ => rfl, fun _ => by simp [e_api_Run]⟩
def e_sl_api_Run (x : (FS api_Run)) : List AV := [encF e_api_Run x]
instance : EncOK 1 e_sl_api_Run := ⟨fun _ => rfl, fun _ => by simp [e_sl_api_Run]⟩
structure api_Row where
  Y : Int
  Runs : (FS api_Run)
def e_api_Row (x : api_Row) : List AV := [.int .i64 x.Y, encF e_api_Run x.Runs]
instance : EncOK 2 e_api_Row := ⟨fun _ => rfl, fun _ => by simp [e_api_Row]⟩
def e_sl_api_Row (x : (FS api_Row)) : List AV := [encF e_api_Row x]
instance : EncOK 1 e_sl_api_Row := ⟨fun _ => rfl, fun _ => by simp [e_sl_api_Row]⟩
structure api_Region where
  Rows : (FS api_Row)
def e_api_Region (x : api_Region) : List AV := [encF e_api_Row x.Rows]
instance : EncOK 1 e_api_Region := ⟨fun _ => rfl, fun _ => by simp [e_api_Region]⟩
structure api_Cell where
  X : Int
  Y : Int
def e_api_Cell (x : api_Cell) : List AV := [.int .i64 x.X, .int .i64 x.Y]
instance : EncOK 2 e_api_Cell := ⟨fun _ => rfl, fun _ => by simp [e_api_Cell]⟩
def k_api_Cell (x : api_Cell) : AV := .agg [.int .i64 x.X, .int .i64 x.Y]
def q_api_Cell (a b : api_Cell) : Bool := (band (ieq a.X b.X) (band (ieq a.Y b.Y) true))
instance : KeyOK true [false, false] k_api_Cell q_api_Cell := ⟨fun a b => by simp [k_api_Cell, q_api_Cell], fun a => by simp [k_api_Cell, AV.noNm, noNmL]⟩
def v_api_Cell (x : api_Cell) : AV := .agg [.int .i64 x.X, .int .i64 x.Y]
instance : ValOK v_api_Cell := ⟨fun v => by simp [v_api_Cell, AV.noNm, noNmL]⟩
structure A4 (α : Type) where
  a0 : α
  a1 : α
  a2 : α
  a3 : α
def A4.toL {α : Type} (x : A4 α) : List α := [x.a0, x.a1, x.a2, x.a3]
def A4.get {α : Type} (x : A4 α) (i : Int) : α := if i = 0 then x.a0 else if i = 1 then x.a1 else if i = 2 then x.a2 else x.a3
def A4.set {α : Type} (x : A4 α) (i : Int) (v : α) : A4 α := if i = 0 then { x with a0 := v } else if i = 1 then { x with a1 := v } else if i = 2 then { x with a2 := v } else { x with a3 := v }
section
variable {α : Type} {w : Nat} {e : α → List AV} [hE : EncOK w e]
include hE
theorem pack_A4 (x : A4 α) {i : Int} (hi : inB i 4 = true) (P Q : List AV) (hw : 0 < w) (ag : Bool) : pack ag (P ++ (cellsE e x.toL ++ Q)) (aOff P.length w i) w = pack ag (e (x.get i)) 0 w :=
  pack_mid (e := e) (l := x.toL) (by
    have hc : i = 0 ∨ i = 1 ∨ i = 2 ∨ i = 3 := by rw [inB_iff] at hi; omega
    rcases hc with rfl | rfl | rfl | rfl <;> rfl) P Q hw ag
theorem paste_A4 (x : A4 α) {i : Int} (hi : inB i 4 = true) (P Q : List AV) (y : α) : paste (P ++ (cellsE e x.toL ++ Q)) (aOff P.length w i) (e y) = P ++ (cellsE e (x.set i y).toL ++ Q) := by
  have hc : i = 0 ∨ i = 1 ∨ i = 2 ∨ i = 3 := by rw [inB_iff] at hi; omega
  have hs : (x.set i y).toL = x.toL.set i.toNat y := by rcases hc with rfl | rfl | rfl | rfl <;> rfl
  rw [hs]
  exact paste_mid (e := e) (l := x.toL) (by have hx : x.toL.length = 4 := rfl; rw [inB_iff] at hi; omega) P Q y
end
structure additiveref34_seen where
  cell : api_Cell
  before : Int
def e_additiveref34_seen (x : additiveref34_seen) : List AV := [.int .i64 x.cell.X, .int .i64 x.cell.Y, .int .i64 x.before]
instance : EncOK 3 e_additiveref34_seen := ⟨fun _ => rfl, fun _ => by simp [e_additiveref34_seen]⟩
def e_a4_i64 (x : (A4 Int)) : List AV := [.int .i64 x.a0, .int .i64 x.a1, .int .i64 x.a2, .int .i64 x.a3]
instance : EncOK 4 e_a4_i64 := ⟨fun _ => rfl, fun _ => by simp [e_a4_i64]⟩
structure comb_state where
  length : Int
  turns : (A4 Int)
def e_comb_state (x : comb_state) : List AV := [.int .i64 x.length, .int .i64 x.turns.a0, .int .i64 x.turns.a1, .int .i64 x.turns.a2, .int .i64 x.turns.a3]
instance : EncOK 5 e_comb_state := ⟨fun _ => rfl, fun _ => by simp [e_comb_state]⟩
def v_comb_state (x : comb_state) : AV := .agg [.int .i64 x.length, .int .i64 x.turns.a0, .int .i64 x.turns.a1, .int .i64 x.turns.a2, .int .i64 x.turns.a3]
instance : ValOK v_comb_state := ⟨fun v => by simp [v_comb_state, AV.noNm, noNmL]⟩
def e_bool (x : Bool) : List AV := [.bool x]
instance : EncOK 1 e_bool := ⟨fun _ => rfl, fun _ => by simp [e_bool]⟩
def e_sl_i64 (x : (FS Int)) : List AV := [encF e_i64 x]
instance : EncOK 1 e_sl_i64 := ⟨fun _ => rfl, fun _ => by simp [e_sl_i64]⟩
structure A5 (α : Type) where
  a0 : α
  a1 : α
  a2 : α
  a3 : α
  a4 : α
def A5.toL {α : Type} (x : A5 α) : List α := [x.a0, x.a1, x.a2, x.a3, x.a4]
def A5.get {α : Type} (x : A5 α) (i : Int) : α := if i = 0 then x.a0 else if i = 1 then x.a1 else if i = 2 then x.a2 else if i = 3 then x.a3 else x.a4
def A5.set {α : Type} (x : A5 α) (i : Int) (v : α) : A5 α := if i = 0 then { x with a0 := v } else if i = 1 then { x with a1 := v } else if i = 2 then { x with a2 := v } else if i = 3 then { x with a3 := v } else { x with a4 := v }
section
variable {α : Type} {w : Nat} {e : α → List AV} [hE : EncOK w e]
include hE
theorem pack_A5 (x : A5 α) {i : Int} (hi : inB i 5 = true) (P Q : List AV) (hw : 0 < w) (ag : Bool) : pack ag (P ++ (cellsE e x.toL ++ Q)) (aOff P.length w i) w = pack ag (e (x.get i)) 0 w :=
  pack_mid (e := e) (l := x.toL) (by
    have hc : i = 0 ∨ i = 1 ∨ i = 2 ∨ i = 3 ∨ i = 4 := by rw [inB_iff] at hi; omega
    rcases hc with rfl | rfl | rfl | rfl | rfl <;> rfl) P Q hw ag
theorem paste_A5 (x : A5 α) {i : Int} (hi : inB i 5 = true) (P Q : List AV) (y : α) : paste (P ++ (cellsE e x.toL ++ Q)) (aOff P.length w i) (e y) = P ++ (cellsE e (x.set i y).toL ++ Q) := by
  have hc : i = 0 ∨ i = 1 ∨ i = 2 ∨ i = 3 ∨ i = 4 := by rw [inB_iff] at hi; omega
  have hs : (x.set i y).toL = x.toL.set i.toNat y := by rcases hc with rfl | rfl | rfl | rfl | rfl <;> rfl
  rw [hs]
  exact paste_mid (e := e) (l := x.toL) (by have hx : x.toL.length = 5 := rfl; rw [inB_iff] at hi; omega) P Q y
end
def e_a5_i64 (x : (A5 Int)) : List AV := [.int .i64 x.a0, .int .i64 x.a1, .int .i64 x.a2, .int .i64 x.a3, .int .i64 x.a4]
instance : EncOK 5 e_a5_i64 := ⟨fun _ => rfl, fun _ => by simp [e_a5_i64]⟩

/-! additiveref18.fine -/
theorem c88_L0_u (Γ : Env) (ps : List Nat) (σ : St) : EC Γ ps 0 c88_L0 σ = EC Γ ps 0 (.seq (.seq (.reg false c88_2) (.cond (.t 7) .skip (.seq (.trim [0]) (.exit 0)))) (.seq (.blk 1 (.seq (.reg true c88_3) (.cond (.t 54) (.seq (.reg false c88_4) (.seq (.trim [2]) .ret)) .skip))) (.reg false c88_5))) σ := rfl
def t_additiveref18_fine_L0 (k0 : (FS api_Run)) (s : Int) : Option (LR Int (Bool ⊕ Unit)) := match s with
 | s0 => (if (ilt s0 (flen k0)) = true then (match fget k0 s0 with
 | none => none
 | some v4 => (match gOpt (band (bnot (bor (bor (ilt v4.From (-4096)) (ige v4.From v4.To)) (igt v4.To 4096))) (igt s0 0)) (fget k0 (isub .i64 s0 1)) with
 | none => none
 | some v11 => (if (bor (bor (bor (ilt v4.From (-4096)) (ige v4.From v4.To)) (igt v4.To 4096)) (band (igt s0 0) (ile v4.From (((v11.getD (⟨0, 0⟩ : api_Run))).To)))) = true then some (.dn (.inl false))
 else some (.nx (iadd .i64 s0 1)))))
 else some (.dn (.inr ())))
def t_additiveref18_fine_L0_st (k0 : (FS api_Run)) (s : Int) : St := match s with
 | s0 => ⟨fr [(0, encF e_api_Run k0), (3, .int .i64 s0)], hl []⟩
def t_additiveref18_fine_L0_out (k0 : (FS api_Run)) (x : (Bool ⊕ Unit)) : LE × St := match x with
 | .inl x => (.ret, ⟨fr [(2, .bool x)], hl []⟩)
 | .inr x => (.exit 0, ⟨fr [(0, encF e_api_Run k0)], hl []⟩)
theorem t_additiveref18_fine_L0_ok {k0 : (FS api_Run)} {s : Int} {r : (Bool ⊕ Unit)} (h : loopT (t_additiveref18_fine_L0 k0) bigN s = some r) : LK env [] 0 [0, 3] c88_L0 (some (t_additiveref18_fine_L0_st k0 s)) = some (t_additiveref18_fine_L0_out k0 r) := loop_walk (st := t_additiveref18_fine_L0_st k0) (out := t_additiveref18_fine_L0_out k0) (by
  clear h s r
  rintro s0 x h
  simp only [t_additiveref18_fine_L0] at h
  by_cases c1 : (ilt s0 (flen k0)) = true
  · rw [if_pos c1] at h
    cases h3 : fget k0 s0 with
    | none => (rw [h3] at h; cases h)
    | some v4 =>
      simp only [h3] at h
      have f2 := iaddr_F (e := e_api_Run) h3
      cases h10 : gOpt (band (bnot (bor (bor (ilt v4.From (-4096)) (ige v4.From v4.To)) (igt v4.To 4096))) (igt s0 0)) (fget k0 (isub .i64 s0 1)) with
      | none => (rw [h10] at h; cases h)
      | some v11 =>
        simp only [h10] at h
        have f9 := fun (q0 : (bor (bor (ilt v4.From (-4096)) (ige v4.From v4.To)) (igt v4.To 4096)) = false) (q1 : (igt s0 0) = true) => iaddr_F (e := e_api_Run) (gOpt_getD (⟨0, 0⟩ : api_Run) h10 (band_mk (bnot_mk q0) q1))
        by_cases c12 : (bor (bor (bor (ilt v4.From (-4096)) (ige v4.From v4.To)) (igt v4.To 4096)) (band (igt s0 0) (ile v4.From (((v11.getD (⟨0, 0⟩ : api_Run))).To)))) = true
        · rw [if_pos c12] at h
          cases h
          show LK env [] 0 [0, 3] c88_L0 (some (t_additiveref18_fine_L0_st _ _)) = some (t_additiveref18_fine_L0_out _ _)
          simp only [t_additiveref18_fine_L0_st, t_additiveref18_fine_L0_out]
          rw [LK_step]
          rcases tof (ilt v4.From (-4096)) with a13 | a13
          · simp (maxSteps := 4000000) [c1, a13, f2, f9, e_i64, e_sl_api_Row, e_sl_api_Run, e_api_Cell, e_api_Region, e_api_Row, e_api_Run, ↓c88_L0_u, c88_0, c88_1, c88_2, c88_3, c88_4, c88_5, c88_7]
          · rcases tof (ige v4.From v4.To) with a14 | a14
            · simp (maxSteps := 4000000) [c1, a13, a14, f2, f9, e_i64, e_sl_api_Row, e_sl_api_Run, e_api_Cell, e_api_Region, e_api_Row, e_api_Run, ↓c88_L0_u, c88_0, c88_1, c88_2, c88_3, c88_4, c88_5, c88_7]
            · rcases tof (igt v4.To 4096) with a15 | a15
              · simp (maxSteps := 4000000) [c1, a13, a14, a15, f2, f9, e_i64, e_sl_api_Row, e_sl_api_Run, e_api_Cell, e_api_Region, e_api_Row, e_api_Run, ↓c88_L0_u, c88_0, c88_1, c88_2, c88_3, c88_4, c88_5, c88_7]
              · rcases tof (igt s0 0) with a16 | a16
                · rcases tof (ile v4.From (((v11.getD (⟨0, 0⟩ : api_Run))).To)) with a17 | a17
                  · simp (maxSteps := 4000000) [c1, a13, a14, a15, a16, a17, f2, f9, e_i64, e_sl_api_Row, e_sl_api_Run, e_api_Cell, e_api_Region, e_api_Row, e_api_Run, ↓c88_L0_u, c88_0, c88_1, c88_2, c88_3, c88_4, c88_5, c88_7]
                  · simp [c1, a13, a14, a15, a16, a17] at c12
                · simp [c1, a13, a14, a15, a16] at c12
        · rw [if_neg c12] at h
          rw [Bool.not_eq_true] at c12
          cases h
          show LK env [] 0 [0, 3] c88_L0 (some (t_additiveref18_fine_L0_st _ _)) = LK env [] 0 [0, 3] c88_L0 (some (t_additiveref18_fine_L0_st _ _))
          simp only [t_additiveref18_fine_L0_st]
          rw [LK_step]
          rcases tof (ilt v4.From (-4096)) with a18 | a18
          · simp [c1, a18] at c12
          · rcases tof (ige v4.From v4.To) with a19 | a19
            · simp [c1, a18, a19] at c12
            · rcases tof (igt v4.To 4096) with a20 | a20
              · simp [c1, a18, a19, a20] at c12
              · rcases tof (igt s0 0) with a21 | a21
                · rcases tof (ile v4.From (((v11.getD (⟨0, 0⟩ : api_Run))).To)) with a22 | a22
                  · simp [c1, a18, a19, a20, a21, a22] at c12
                  · simp (maxSteps := 4000000) [c1, a18, a19, a20, a21, a22, f2, f9, e_i64, e_sl_api_Row, e_sl_api_Run, e_api_Cell, e_api_Region, e_api_Row, e_api_Run, ↓c88_L0_u, c88_0, c88_1, c88_2, c88_3, c88_4, c88_5, c88_7]
                · simp (maxSteps := 4000000) [c1, a18, a19, a20, a21, f2, f9, e_i64, e_sl_api_Row, e_sl_api_Run, e_api_Cell, e_api_Region, e_api_Row, e_api_Run, ↓c88_L0_u, c88_0, c88_1, c88_2, c88_3, c88_4, c88_5, c88_7]
  · rw [if_neg c1] at h
    rw [Bool.not_eq_true] at c1
    cases h
    show LK env [] 0 [0, 3] c88_L0 (some (t_additiveref18_fine_L0_st _ _)) = some (t_additiveref18_fine_L0_out _ _)
    simp only [t_additiveref18_fine_L0_st, t_additiveref18_fine_L0_out]
    rw [LK_step]
    simp (maxSteps := 4000000) [c1, e_i64, e_sl_api_Row, e_sl_api_Run, e_api_Cell, e_api_Region, e_api_Row, e_api_Run, ↓c88_L0_u, c88_0, c88_1, c88_2, c88_3, c88_4, c88_5, c88_7]) bigN s r h
def t_additiveref18_fine (p0 : (FS api_Run)) : Option Bool := (match loopT (t_additiveref18_fine_L0 p0) bigN 0 with
 | none => none
 | some v14 => (match v14 with
 | .inl v14x => some v14x
 | .inr v14x => some (igt (flen p0) 0)))
theorem t_additiveref18_fine_ok {p0 : (FS api_Run)} {r : Bool} (h : t_additiveref18_fine p0 = some r) : FC env 88 [encF e_api_Run p0] none = some (.bool r, fun _ => none) := by
  unfold t_additiveref18_fine at h
  cases h23 : loopT (t_additiveref18_fine_L0 p0) bigN 0 with
  | none => (rw [h23] at h; cases h)
  | some v24 =>
    simp only [h23] at h
    have f25 := t_additiveref18_fine_L0_ok h23
    cases v24 with
    | inl v24x =>
      try simp only at h
      simp only [t_additiveref18_fine_L0_st, t_additiveref18_fine_L0_out, fset_len] at f25
      try simp only [fcase_nil, fcase_lst, fcase_fsnoc, fcase_fapp, fcase_fset, fcase_frep, fcase_flit, fcase_flst] at f25
      cases h
      refine FC_pure (lf := lf88) rfl rfl rfl ?_
      simp only [lf88, lc88, c88_0, c88_1, c88_2, c88_3, c88_4, c88_5, c88_7]
      simp (maxSteps := 4000000) [f25, e_i64, e_sl_api_Row, e_sl_api_Run, e_api_Cell, e_api_Region, e_api_Row, e_api_Run, ↓c88_L0_u]
    | inr v24x =>
      try simp only at h
      simp only [t_additiveref18_fine_L0_st, t_additiveref18_fine_L0_out, fset_len] at f25
      try simp only [fcase_nil, fcase_lst, fcase_fsnoc, fcase_fapp, fcase_fset, fcase_frep, fcase_flit, fcase_flst] at f25
      cases h
      refine FC_pure (lf := lf88) rfl rfl rfl ?_
      simp only [lf88, lc88, c88_0, c88_1, c88_2, c88_3, c88_4, c88_5, c88_7]
      simp (maxSteps := 4000000) [f25, e_i64, e_sl_api_Row, e_sl_api_Run, e_api_Cell, e_api_Region, e_api_Row, e_api_Run, ↓c88_L0_u]

/-! additiveref18.Valid -/
theorem c54_L0_u (Γ : Env) (ps : List Nat) (σ : St) : EC Γ ps 0 c54_L0 σ = EC Γ ps 0 (.seq (.seq (.reg false c54_2) (.cond (.t 9) .skip (.seq (.trim []) (.exit 0)))) (.seq (.blk 1 (.seq (.reg false c54_3) (.seq (.reg false c54_4) (.cond (.t 48) (.seq (.reg false c54_5) (.seq (.trim [2]) .ret)) .skip)))) (.reg false c54_6))) σ := rfl
def t_additiveref18_Valid_L0 (k0 : api_Region) (s : Int) : Option (LR Int (Bool ⊕ Unit)) := match s with
 | s0 => (if (ilt s0 (flen k0.Rows)) = true then (match fget k0.Rows s0 with
 | none => none
 | some v4 => (match gOpt (band (bnot (bor (ilt v4.Y (-4096)) (ige v4.Y 4096))) (igt s0 0)) (fget k0.Rows (isub .i64 s0 1)) with
 | none => none
 | some v7 => (match gOpt (bnot (bor (bor (ilt v4.Y (-4096)) (ige v4.Y 4096)) (band (igt s0 0) (ile v4.Y (((v7.getD (⟨0, (FS.nil : (FS api_Run))⟩ : api_Row))).Y))))) (t_additiveref18_fine v4.Runs) with
 | none => none
 | some v11 => (if (bor (bor (bor (ilt v4.Y (-4096)) (ige v4.Y 4096)) (band (igt s0 0) (ile v4.Y (((v7.getD (⟨0, (FS.nil : (FS api_Run))⟩ : api_Row))).Y)))) (bnot (v11.getD false))) = true then some (.dn (.inl false))
 else some (.nx (iadd .i64 s0 1))))))
 else some (.dn (.inr ())))
def t_additiveref18_Valid_L0_st (k0 : api_Region) (s : Int) : St := match s with
 | s0 => ⟨fr [(1, .ptr 1 0 0), (3, .int .i64 s0)], hl [(1, .box 0 [encF e_api_Row k0.Rows])]⟩
def t_additiveref18_Valid_L0_out (k0 : api_Region) (x : (Bool ⊕ Unit)) : LE × St := match x with
 | .inl x => (.ret, ⟨fr [(2, .bool x)], hl []⟩)
 | .inr x => (.exit 0, ⟨fr [], hl []⟩)
theorem t_additiveref18_Valid_L0_ok {k0 : api_Region} {s : Int} {r : (Bool ⊕ Unit)} (h : loopT (t_additiveref18_Valid_L0 k0) bigN s = some r) : LK env [] 0 [1, 3] c54_L0 (some (t_additiveref18_Valid_L0_st k0 s)) = some (t_additiveref18_Valid_L0_out k0 r) := loop_walk (st := t_additiveref18_Valid_L0_st k0) (out := t_additiveref18_Valid_L0_out k0) (by
  clear h s r
  rintro s0 x h
  simp only [t_additiveref18_Valid_L0] at h
  by_cases c1 : (ilt s0 (flen k0.Rows)) = true
  · rw [if_pos c1] at h
    cases h3 : fget k0.Rows s0 with
    | none => (rw [h3] at h; cases h)
    | some v4 =>
      simp only [h3] at h
      have f2 := iaddr_F (e := e_api_Row) h3
      cases h6 : gOpt (band (bnot (bor (ilt v4.Y (-4096)) (ige v4.Y 4096))) (igt s0 0)) (fget k0.Rows (isub .i64 s0 1)) with
      | none => (rw [h6] at h; cases h)
      | some v7 =>
        simp only [h6] at h
        have f5 := fun (q0 : (bor (ilt v4.Y (-4096)) (ige v4.Y 4096)) = false) (q1 : (igt s0 0) = true) => iaddr_F (e := e_api_Row) (gOpt_getD (⟨0, (FS.nil : (FS api_Run))⟩ : api_Row) h6 (band_mk (bnot_mk q0) q1))
        cases h10 : gOpt (bnot (bor (bor (ilt v4.Y (-4096)) (ige v4.Y 4096)) (band (igt s0 0) (ile v4.Y (((v7.getD (⟨0, (FS.nil : (FS api_Run))⟩ : api_Row))).Y))))) (t_additiveref18_fine v4.Runs) with
        | none => (rw [h10] at h; cases h)
        | some v11 =>
          simp only [h10] at h
          have f9 := fun (q0 : (bor (bor (ilt v4.Y (-4096)) (ige v4.Y 4096)) (band (igt s0 0) (ile v4.Y (((v7.getD (⟨0, (FS.nil : (FS api_Run))⟩ : api_Row))).Y)))) = false) => t_additiveref18_fine_ok (gOpt_getD false h10 (bnot_mk q0))
          by_cases c12 : (bor (bor (bor (ilt v4.Y (-4096)) (ige v4.Y 4096)) (band (igt s0 0) (ile v4.Y (((v7.getD (⟨0, (FS.nil : (FS api_Run))⟩ : api_Row))).Y)))) (bnot (v11.getD false))) = true
          · rw [if_pos c12] at h
            cases h
            show LK env [] 0 [1, 3] c54_L0 (some (t_additiveref18_Valid_L0_st _ _)) = some (t_additiveref18_Valid_L0_out _ _)
            simp only [t_additiveref18_Valid_L0_st, t_additiveref18_Valid_L0_out]
            rw [LK_step]
            rcases tof (ilt v4.Y (-4096)) with a13 | a13
            · simp (maxSteps := 4000000) [c1, a13, f2, f5, f9, e_i64, e_sl_api_Row, e_sl_api_Run, e_api_Cell, e_api_Region, e_api_Row, e_api_Run, ↓c54_L0_u, c54_0, c54_1, c54_2, c54_3, c54_4, c54_5, c54_6, c54_8]
            · rcases tof (ige v4.Y 4096) with a14 | a14
              · simp (maxSteps := 4000000) [c1, a13, a14, f2, f5, f9, e_i64, e_sl_api_Row, e_sl_api_Run, e_api_Cell, e_api_Region, e_api_Row, e_api_Run, ↓c54_L0_u, c54_0, c54_1, c54_2, c54_3, c54_4, c54_5, c54_6, c54_8]
              · rcases tof (igt s0 0) with a15 | a15
                · rcases tof (ile v4.Y (((v7.getD (⟨0, (FS.nil : (FS api_Run))⟩ : api_Row))).Y)) with a16 | a16
                  · simp (maxSteps := 4000000) [c1, a13, a14, a15, a16, f2, f5, f9, e_i64, e_sl_api_Row, e_sl_api_Run, e_api_Cell, e_api_Region, e_api_Row, e_api_Run, ↓c54_L0_u, c54_0, c54_1, c54_2, c54_3, c54_4, c54_5, c54_6, c54_8]
                  · rcases tof (v11.getD false) with a17 | a17
                    · simp [c1, a13, a14, a15, a16, a17] at c12
                    · simp (maxSteps := 4000000) [c1, a13, a14, a15, a16, a17, f2, f5, f9, e_i64, e_sl_api_Row, e_sl_api_Run, e_api_Cell, e_api_Region, e_api_Row, e_api_Run, ↓c54_L0_u, c54_0, c54_1, c54_2, c54_3, c54_4, c54_5, c54_6, c54_8]
                · rcases tof (v11.getD false) with a18 | a18
                  · simp [c1, a13, a14, a15, a18] at c12
                  · simp (maxSteps := 4000000) [c1, a13, a14, a15, a18, f2, f5, f9, e_i64, e_sl_api_Row, e_sl_api_Run, e_api_Cell, e_api_Region, e_api_Row, e_api_Run, ↓c54_L0_u, c54_0, c54_1, c54_2, c54_3, c54_4, c54_5, c54_6, c54_8]
          · rw [if_neg c12] at h
            rw [Bool.not_eq_true] at c12
            cases h
            show LK env [] 0 [1, 3] c54_L0 (some (t_additiveref18_Valid_L0_st _ _)) = LK env [] 0 [1, 3] c54_L0 (some (t_additiveref18_Valid_L0_st _ _))
            simp only [t_additiveref18_Valid_L0_st]
            rw [LK_step]
            rcases tof (ilt v4.Y (-4096)) with a19 | a19
            · simp [c1, a19] at c12
            · rcases tof (ige v4.Y 4096) with a20 | a20
              · simp [c1, a19, a20] at c12
              · rcases tof (igt s0 0) with a21 | a21
                · rcases tof (ile v4.Y (((v7.getD (⟨0, (FS.nil : (FS api_Run))⟩ : api_Row))).Y)) with a22 | a22
                  · simp [c1, a19, a20, a21, a22] at c12
                  · rcases tof (v11.getD false) with a23 | a23
                    · simp (maxSteps := 4000000) [c1, a19, a20, a21, a22, a23, f2, f5, f9, e_i64, e_sl_api_Row, e_sl_api_Run, e_api_Cell, e_api_Region, e_api_Row, e_api_Run, ↓c54_L0_u, c54_0, c54_1, c54_2, c54_3, c54_4, c54_5, c54_6, c54_8]
                    · simp [c1, a19, a20, a21, a22, a23] at c12
                · rcases tof (v11.getD false) with a24 | a24
                  · simp (maxSteps := 4000000) [c1, a19, a20, a21, a24, f2, f5, f9, e_i64, e_sl_api_Row, e_sl_api_Run, e_api_Cell, e_api_Region, e_api_Row, e_api_Run, ↓c54_L0_u, c54_0, c54_1, c54_2, c54_3, c54_4, c54_5, c54_6, c54_8]
                  · simp [c1, a19, a20, a21, a24] at c12
  · rw [if_neg c1] at h
    rw [Bool.not_eq_true] at c1
    cases h
    show LK env [] 0 [1, 3] c54_L0 (some (t_additiveref18_Valid_L0_st _ _)) = some (t_additiveref18_Valid_L0_out _ _)
    simp only [t_additiveref18_Valid_L0_st, t_additiveref18_Valid_L0_out]
    rw [LK_step]
    simp (maxSteps := 4000000) [c1, e_i64, e_sl_api_Row, e_sl_api_Run, e_api_Cell, e_api_Region, e_api_Row, e_api_Run, ↓c54_L0_u, c54_0, c54_1, c54_2, c54_3, c54_4, c54_5, c54_6, c54_8]) bigN s r h
def t_additiveref18_Valid (p0 : api_Region) : Option Bool := (match loopT (t_additiveref18_Valid_L0 p0) bigN 0 with
 | none => none
 | some v14 => (match v14 with
 | .inl v14x => some v14x
 | .inr v14x => some true))
theorem t_additiveref18_Valid_ok {p0 : api_Region} {r : Bool} (h : t_additiveref18_Valid p0 = some r) : FC env 54 [.agg [encF e_api_Row p0.Rows]] none = some (.bool r, fun _ => none) := by
  unfold t_additiveref18_Valid at h
  cases h25 : loopT (t_additiveref18_Valid_L0 p0) bigN 0 with
  | none => (rw [h25] at h; cases h)
  | some v26 =>
    simp only [h25] at h
    have f27 := t_additiveref18_Valid_L0_ok h25
    cases v26 with
    | inl v26x =>
      try simp only at h
      simp only [t_additiveref18_Valid_L0_st, t_additiveref18_Valid_L0_out, fset_len] at f27
      try simp only [fcase_nil, fcase_lst, fcase_fsnoc, fcase_fapp, fcase_fset, fcase_frep, fcase_flit, fcase_flst] at f27
      cases h
      refine FC_pure (lf := lf54) rfl rfl rfl ?_
      simp only [lf54, lc54, c54_0, c54_1, c54_2, c54_3, c54_4, c54_5, c54_6, c54_8]
      simp (maxSteps := 4000000) [f27, e_i64, e_sl_api_Row, e_sl_api_Run, e_api_Cell, e_api_Region, e_api_Row, e_api_Run, ↓c54_L0_u]
    | inr v26x =>
      try simp only at h
      simp only [t_additiveref18_Valid_L0_st, t_additiveref18_Valid_L0_out, fset_len] at f27
      try simp only [fcase_nil, fcase_lst, fcase_fsnoc, fcase_fapp, fcase_fset, fcase_frep, fcase_flit, fcase_flst] at f27
      cases h
      refine FC_pure (lf := lf54) rfl rfl rfl ?_
      simp only [lf54, lc54, c54_0, c54_1, c54_2, c54_3, c54_4, c54_5, c54_6, c54_8]
      simp (maxSteps := 4000000) [f27, e_i64, e_sl_api_Row, e_sl_api_Run, e_api_Cell, e_api_Region, e_api_Row, e_api_Run, ↓c54_L0_u]

/-! additiveref18.Count -/
theorem c46_L0_u (Γ : Env) (ps : List Nat) (σ : St) : EC Γ ps 0 c46_L0 σ = EC Γ ps 0 (.seq (.seq (.reg false c46_7) (.cond (.t 25) .skip (.seq (.trim [1, 3, 4]) (.exit 2)))) (.seq (.blk 3 (.reg true c46_8)) (.reg false c46_9))) σ := rfl
theorem c46_L1_u (Γ : Env) (ps : List Nat) (σ : St) : EC Γ ps 0 c46_L1 σ = EC Γ ps 0 (.seq (.seq (.reg false c46_5) (.cond (.t 14) .skip (.seq (.trim [3]) (.exit 0)))) (.seq (.blk 1 (.seq (.reg false c46_6) (.blk 2 (.loop [1, 3, 4, 5] c46_L0)))) (.reg false c46_11))) σ := rfl
def t_additiveref18_Count_L0 (k0 : api_Region) (k1 : Int) (s : (Int × Int)) : Option (LR (Int × Int) Int) := match s with
 | (s0, s1) => (match fget k0.Rows k1 with
 | none => none
 | some v8 => (if (ilt s1 (flen v8.Runs)) = true then (match fget v8.Runs s1 with
 | none => none
 | some v13 => some (.nx ((iadd .i64 s0 (isub .i64 v13.To v13.From)), (iadd .i64 s1 1))))
 else some (.dn s0)))
def t_additiveref18_Count_L0_st (k0 : api_Region) (k1 : Int) (s : (Int × Int)) : St := match s with
 | (s0, s1) => ⟨fr [(1, .ptr 1 0 0), (3, .int .i64 s0), (4, .int .i64 k1), (5, .int .i64 s1)], hl [(1, .box 0 [encF e_api_Row k0.Rows])]⟩
def t_additiveref18_Count_L0_out (k0 : api_Region) (k1 : Int) (x : Int) : LE × St := (.exit 2, ⟨fr [(1, .ptr 1 0 0), (3, .int .i64 x), (4, .int .i64 k1)], hl [(1, .box 0 [encF e_api_Row k0.Rows])]⟩)
theorem t_additiveref18_Count_L0_ok {k0 : api_Region} {k1 : Int} {s : (Int × Int)} {r : Int} (h : loopT (t_additiveref18_Count_L0 k0 k1) bigN s = some r) : LK env [] 0 [1, 3, 4, 5] c46_L0 (some (t_additiveref18_Count_L0_st k0 k1 s)) = some (t_additiveref18_Count_L0_out k0 k1 r) := loop_walk (st := t_additiveref18_Count_L0_st k0 k1) (out := t_additiveref18_Count_L0_out k0 k1) (by
  clear h s r
  rintro ⟨s0, s1⟩ x h
  simp only [t_additiveref18_Count_L0] at h
  cases h8 : fget k0.Rows k1 with
  | none => (rw [h8] at h; cases h)
  | some v9 =>
    simp only [h8] at h
    have f7 := iaddr_F (e := e_api_Row) h8
    by_cases c10 : (ilt s1 (flen v9.Runs)) = true
    · rw [if_pos c10] at h
      cases h13 : fget v9.Runs s1 with
      | none => (rw [h13] at h; cases h)
      | some v14 =>
        simp only [h13] at h
        have f12 := iaddr_F (e := e_api_Run) h13
        cases h
        show LK env [] 0 [1, 3, 4, 5] c46_L0 (some (t_additiveref18_Count_L0_st _ _ _)) = LK env [] 0 [1, 3, 4, 5] c46_L0 (some (t_additiveref18_Count_L0_st _ _ _))
        simp only [t_additiveref18_Count_L0_st]
        rw [LK_step]
        simp (maxSteps := 4000000) [c10, f7, f12, e_i64, e_sl_api_Row, e_sl_api_Run, e_api_Cell, e_api_Region, e_api_Row, e_api_Run, ↓c46_L0_u, ↓c46_L1_u, c46_0, c46_1, c46_2, c46_3, c46_4, c46_5, c46_6, c46_7, c46_8, c46_9, c46_11, c46_13]
    · rw [if_neg c10] at h
      rw [Bool.not_eq_true] at c10
      cases h
      show LK env [] 0 [1, 3, 4, 5] c46_L0 (some (t_additiveref18_Count_L0_st _ _ _)) = some (t_additiveref18_Count_L0_out _ _ _)
      simp only [t_additiveref18_Count_L0_st, t_additiveref18_Count_L0_out]
      rw [LK_step]
      simp (maxSteps := 4000000) [c10, f7, e_i64, e_sl_api_Row, e_sl_api_Run, e_api_Cell, e_api_Region, e_api_Row, e_api_Run, ↓c46_L0_u, ↓c46_L1_u, c46_0, c46_1, c46_2, c46_3, c46_4, c46_5, c46_6, c46_7, c46_8, c46_9, c46_11, c46_13]) bigN s r h
def t_additiveref18_Count_L1 (k0 : api_Region) (s : (Int × Int)) : Option (LR (Int × Int) Int) := match s with
 | (s0, s1) => (if (ilt s1 (flen k0.Rows)) = true then (match loopT (t_additiveref18_Count_L0 k0 s1) bigN (s0, 0) with
 | none => none
 | some v17 => some (.nx (v17, (iadd .i64 s1 1))))
 else some (.dn s0))
def t_additiveref18_Count_L1_st (k0 : api_Region) (s : (Int × Int)) : St := match s with
 | (s0, s1) => ⟨fr [(1, .ptr 1 0 0), (3, .int .i64 s0), (4, .int .i64 s1)], hl [(1, .box 0 [encF e_api_Row k0.Rows])]⟩
def t_additiveref18_Count_L1_out (k0 : api_Region) (x : Int) : LE × St := (.exit 0, ⟨fr [(3, .int .i64 x)], hl []⟩)
theorem t_additiveref18_Count_L1_ok {k0 : api_Region} {s : (Int × Int)} {r : Int} (h : loopT (t_additiveref18_Count_L1 k0) bigN s = some r) : LK env [] 0 [1, 3, 4] c46_L1 (some (t_additiveref18_Count_L1_st k0 s)) = some (t_additiveref18_Count_L1_out k0 r) := loop_walk (st := t_additiveref18_Count_L1_st k0) (out := t_additiveref18_Count_L1_out k0) (by
  clear h s r
  rintro ⟨s0, s1⟩ x h
  simp only [t_additiveref18_Count_L1] at h
  by_cases c6 : (ilt s1 (flen k0.Rows)) = true
  · rw [if_pos c6] at h
    cases h17 : loopT (t_additiveref18_Count_L0 k0 s1) bigN (s0, 0) with
    | none => (rw [h17] at h; cases h)
    | some v18 =>
      simp only [h17] at h
      have f19 := t_additiveref18_Count_L0_ok h17
      simp only [t_additiveref18_Count_L0_st, t_additiveref18_Count_L0_out, fset_len] at f19
      try simp only [fcase_nil, fcase_lst, fcase_fsnoc, fcase_fapp, fcase_fset, fcase_frep, fcase_flit, fcase_flst] at f19
      cases h
      show LK env [] 0 [1, 3, 4] c46_L1 (some (t_additiveref18_Count_L1_st _ _)) = LK env [] 0 [1, 3, 4] c46_L1 (some (t_additiveref18_Count_L1_st _ _))
      simp only [t_additiveref18_Count_L1_st]
      rw [LK_step]
      try simp only [c6] at f19
      simp (maxSteps := 4000000) [c6, f19, e_i64, e_sl_api_Row, e_sl_api_Run, e_api_Cell, e_api_Region, e_api_Row, e_api_Run, ↓c46_L0_u, ↓c46_L1_u, c46_0, c46_1, c46_2, c46_3, c46_4, c46_5, c46_6, c46_7, c46_8, c46_9, c46_11, c46_13]
  · rw [if_neg c6] at h
    rw [Bool.not_eq_true] at c6
    cases h
    show LK env [] 0 [1, 3, 4] c46_L1 (some (t_additiveref18_Count_L1_st _ _)) = some (t_additiveref18_Count_L1_out _ _)
    simp only [t_additiveref18_Count_L1_st, t_additiveref18_Count_L1_out]
    rw [LK_step]
    simp (maxSteps := 4000000) [c6, e_i64, e_sl_api_Row, e_sl_api_Run, e_api_Cell, e_api_Region, e_api_Row, e_api_Run, ↓c46_L0_u, ↓c46_L1_u, c46_0, c46_1, c46_2, c46_3, c46_4, c46_5, c46_6, c46_7, c46_8, c46_9, c46_11, c46_13]) bigN s r h
def t_additiveref18_Count (p0 : api_Region) : Option Int := (match t_additiveref18_Valid p0 with
 | none => none
 | some v3 => (if (bnot v3) = true then some 0
 else (match loopT (t_additiveref18_Count_L1 p0) bigN (0, 0) with
 | none => none
 | some v20 => some v20)))
theorem t_additiveref18_Count_ok {p0 : api_Region} {r : Int} (h : t_additiveref18_Count p0 = some r) : FC env 46 [.agg [encF e_api_Row p0.Rows]] none = some (.int .i64 r, fun _ => none) := by
  unfold t_additiveref18_Count at h
  cases h2 : t_additiveref18_Valid p0 with
  | none => (rw [h2] at h; cases h)
  | some v3 =>
    simp only [h2] at h
    have f1 := t_additiveref18_Valid_ok h2
    by_cases c4 : (bnot v3) = true
    · rw [if_pos c4] at h
      cases h
      refine FC_pure (lf := lf46) rfl rfl rfl ?_
      simp only [lf46, lc46, c46_0, c46_1, c46_2, c46_3, c46_4, c46_5, c46_6, c46_7, c46_8, c46_9, c46_11, c46_13]
      rcases tof v3 with a5 | a5
      · simp [a5] at c4
      · simp (maxSteps := 4000000) [a5, f1, e_i64, e_sl_api_Row, e_sl_api_Run, e_api_Cell, e_api_Region, e_api_Row, e_api_Run, ↓c46_L0_u, ↓c46_L1_u]
    · rw [if_neg c4] at h
      rw [Bool.not_eq_true] at c4
      cases h20 : loopT (t_additiveref18_Count_L1 p0) bigN (0, 0) with
      | none => (rw [h20] at h; cases h)
      | some v21 =>
        simp only [h20] at h
        have f22 := t_additiveref18_Count_L1_ok h20
        simp only [t_additiveref18_Count_L1_st, t_additiveref18_Count_L1_out, fset_len] at f22
        try simp only [fcase_nil, fcase_lst, fcase_fsnoc, fcase_fapp, fcase_fset, fcase_frep, fcase_flit, fcase_flst] at f22
        cases h
        refine FC_pure (lf := lf46) rfl rfl rfl ?_
        simp only [lf46, lc46, c46_0, c46_1, c46_2, c46_3, c46_4, c46_5, c46_6, c46_7, c46_8, c46_9, c46_11, c46_13]
        rcases tof v3 with a23 | a23
        · try simp only [a23] at f22
          simp (maxSteps := 4000000) [a23, f1, f22, e_i64, e_sl_api_Row, e_sl_api_Run, e_api_Cell, e_api_Region, e_api_Row, e_api_Run, ↓c46_L0_u, ↓c46_L1_u]
        · simp [a23] at c4

/-! additivelaw18.Small -/
theorem c16_L0_u (Γ : Env) (ps : List Nat) (σ : St) : EC Γ ps 0 c16_L0 σ = EC Γ ps 0 (.seq (.seq (.reg false c16_4) (.cond (.t 12) .skip (.seq (.trim [1]) (.exit 0)))) (.seq (.blk 1 (.seq (.reg false c16_5) (.cond (.t 22) (.seq (.reg false c16_6) (.seq (.trim [2]) .ret)) .skip))) (.reg false c16_7))) σ := rfl
def t_additivelaw18_Small_L0 (k0 : api_Region) (s : Int) : Option (LR Int (Bool ⊕ Unit)) := match s with
 | s0 => (if (ilt s0 (flen k0.Rows)) = true then (match fget k0.Rows s0 with
 | none => none
 | some v5 => (if (igt (flen v5.Runs) 40) = true then some (.dn (.inl false))
 else some (.nx (iadd .i64 s0 1))))
 else some (.dn (.inr ())))
def t_additivelaw18_Small_L0_st (k0 : api_Region) (s : Int) : St := match s with
 | s0 => ⟨fr [(1, .ptr 1 0 0), (3, .int .i64 s0)], hl [(1, .box 0 [encF e_api_Row k0.Rows])]⟩
def t_additivelaw18_Small_L0_out (k0 : api_Region) (x : (Bool ⊕ Unit)) : LE × St := match x with
 | .inl x => (.ret, ⟨fr [(2, .bool x)], hl []⟩)
 | .inr x => (.exit 0, ⟨fr [(1, .ptr 1 0 0)], hl [(1, .box 0 [encF e_api_Row k0.Rows])]⟩)
theorem t_additivelaw18_Small_L0_ok {k0 : api_Region} {s : Int} {r : (Bool ⊕ Unit)} (h : loopT (t_additivelaw18_Small_L0 k0) bigN s = some r) : LK env [] 0 [1, 3] c16_L0 (some (t_additivelaw18_Small_L0_st k0 s)) = some (t_additivelaw18_Small_L0_out k0 r) := loop_walk (st := t_additivelaw18_Small_L0_st k0) (out := t_additivelaw18_Small_L0_out k0) (by
  clear h s r
  rintro s0 x h
  simp only [t_additivelaw18_Small_L0] at h
  by_cases c2 : (ilt s0 (flen k0.Rows)) = true
  · rw [if_pos c2] at h
    cases h4 : fget k0.Rows s0 with
    | none => (rw [h4] at h; cases h)
    | some v5 =>
      simp only [h4] at h
      have f3 := iaddr_F (e := e_api_Row) h4
      by_cases c6 : (igt (flen v5.Runs) 40) = true
      · rw [if_pos c6] at h
        cases h
        show LK env [] 0 [1, 3] c16_L0 (some (t_additivelaw18_Small_L0_st _ _)) = some (t_additivelaw18_Small_L0_out _ _)
        simp only [t_additivelaw18_Small_L0_st, t_additivelaw18_Small_L0_out]
        rw [LK_step]
        simp (maxSteps := 4000000) [c2, c6, f3, e_i64, e_sl_api_Row, e_sl_api_Run, e_api_Cell, e_api_Region, e_api_Row, e_api_Run, ↓c16_L0_u, c16_0, c16_1, c16_2, c16_3, c16_4, c16_5, c16_6, c16_7, c16_9]
      · rw [if_neg c6] at h
        rw [Bool.not_eq_true] at c6
        cases h
        show LK env [] 0 [1, 3] c16_L0 (some (t_additivelaw18_Small_L0_st _ _)) = LK env [] 0 [1, 3] c16_L0 (some (t_additivelaw18_Small_L0_st _ _))
        simp only [t_additivelaw18_Small_L0_st]
        rw [LK_step]
        simp (maxSteps := 4000000) [c2, c6, f3, e_i64, e_sl_api_Row, e_sl_api_Run, e_api_Cell, e_api_Region, e_api_Row, e_api_Run, ↓c16_L0_u, c16_0, c16_1, c16_2, c16_3, c16_4, c16_5, c16_6, c16_7, c16_9]
  · rw [if_neg c2] at h
    rw [Bool.not_eq_true] at c2
    cases h
    show LK env [] 0 [1, 3] c16_L0 (some (t_additivelaw18_Small_L0_st _ _)) = some (t_additivelaw18_Small_L0_out _ _)
    simp only [t_additivelaw18_Small_L0_st, t_additivelaw18_Small_L0_out]
    rw [LK_step]
    simp (maxSteps := 4000000) [c2, e_i64, e_sl_api_Row, e_sl_api_Run, e_api_Cell, e_api_Region, e_api_Row, e_api_Run, ↓c16_L0_u, c16_0, c16_1, c16_2, c16_3, c16_4, c16_5, c16_6, c16_7, c16_9]) bigN s r h
def t_additivelaw18_Small (p0 : api_Region) : Option Bool := (if (igt (flen p0.Rows) 40) = true then some false
 else (match loopT (t_additivelaw18_Small_L0 p0) bigN 0 with
 | none => none
 | some v8 => (match v8 with
 | .inl v8x => some v8x
 | .inr v8x => (match t_additiveref18_Count p0 with
 | none => none
 | some v12 => some (ile v12 600)))))
theorem t_additivelaw18_Small_ok {p0 : api_Region} {r : Bool} (h : t_additivelaw18_Small p0 = some r) : FC env 16 [.agg [encF e_api_Row p0.Rows]] none = some (.bool r, fun _ => none) := by
  unfold t_additivelaw18_Small at h
  by_cases c1 : (igt (flen p0.Rows) 40) = true
  · rw [if_pos c1] at h
    cases h
    refine FC_pure (lf := lf16) rfl rfl rfl ?_
    simp only [lf16, lc16, c16_0, c16_1, c16_2, c16_3, c16_4, c16_5, c16_6, c16_7, c16_9]
    simp (maxSteps := 4000000) [c1, e_i64, e_sl_api_Row, e_sl_api_Run, e_api_Cell, e_api_Region, e_api_Row, e_api_Run, ↓c16_L0_u]
  · rw [if_neg c1] at h
    rw [Bool.not_eq_true] at c1
    cases h7 : loopT (t_additivelaw18_Small_L0 p0) bigN 0 with
    | none => (rw [h7] at h; cases h)
    | some v8 =>
      simp only [h7] at h
      have f9 := t_additivelaw18_Small_L0_ok h7
      cases v8 with
      | inl v8x =>
        try simp only at h
        simp only [t_additivelaw18_Small_L0_st, t_additivelaw18_Small_L0_out, fset_len] at f9
        try simp only [fcase_nil, fcase_lst, fcase_fsnoc, fcase_fapp, fcase_fset, fcase_frep, fcase_flit, fcase_flst] at f9
        cases h
        refine FC_pure (lf := lf16) rfl rfl rfl ?_
        simp only [lf16, lc16, c16_0, c16_1, c16_2, c16_3, c16_4, c16_5, c16_6, c16_7, c16_9]
        try simp only [c1] at f9
        simp (maxSteps := 4000000) [c1, f9, e_i64, e_sl_api_Row, e_sl_api_Run, e_api_Cell, e_api_Region, e_api_Row, e_api_Run, ↓c16_L0_u]
      | inr v8x =>
        try simp only at h
        simp only [t_additivelaw18_Small_L0_st, t_additivelaw18_Small_L0_out, fset_len] at f9
        try simp only [fcase_nil, fcase_lst, fcase_fsnoc, fcase_fapp, fcase_fset, fcase_frep, fcase_flit, fcase_flst] at f9
        cases h11 : t_additiveref18_Count p0 with
        | none => (rw [h11] at h; cases h)
        | some v12 =>
          simp only [h11] at h
          have f10 := t_additiveref18_Count_ok h11
          cases h
          refine FC_pure (lf := lf16) rfl rfl rfl ?_
          simp only [lf16, lc16, c16_0, c16_1, c16_2, c16_3, c16_4, c16_5, c16_6, c16_7, c16_9]
          try simp only [c1] at f9
          simp (maxSteps := 4000000) [c1, f9, f10, e_i64, e_sl_api_Row, e_sl_api_Run, e_api_Cell, e_api_Region, e_api_Row, e_api_Run, ↓c16_L0_u]

/-! additivelaw34.awake -/
def u_additivelaw34_awake : Bool := true
theorem u_additivelaw34_awake_ok : FC env 17 [] none = some (.bool u_additivelaw34_awake, fun _ => none) := FC_iff.2 ⟨60, by kernel_rfl⟩

/-! region.ok -/
def u_region_ok (p0 : Int) : Bool := (band (ige p0 (-4096)) (ilt p0 4096))
def t_region_ok (p0 : Int) : Option Bool := some (u_region_ok p0)
theorem u_region_ok_ok (p0 : Int) : FC env 89 [.int .i64 p0] none = some (.bool (u_region_ok p0), fun _ => none) := by
  unfold u_region_ok
  refine FC_pure (lf := lf89) rfl rfl rfl ?_
  simp only [lf89, lc89, c89_0, c89_1]
  rcases tof (ige p0 (-4096)) with a1 | a1
  · simp (maxSteps := 4000000) [a1, e_i64, e_sl_api_Row, e_sl_api_Run, e_api_Cell, e_api_Region, e_api_Row, e_api_Run]
  · simp (maxSteps := 4000000) [a1, e_i64, e_sl_api_Row, e_sl_api_Run, e_api_Cell, e_api_Region, e_api_Row, e_api_Run]
theorem t_region_ok_ok {p0 : Int} {r : Bool} (h : t_region_ok p0 = some r) : FC env 89 [.int .i64 p0] none = some (.bool r, fun _ => none) := by
  cases h
  exact u_region_ok_ok _

/-! runs.fits -/
def u_runs_fits (p0 : api_Run) : Bool := (band (band (band (ige p0.From (-1048576)) (ile p0.From 1048576)) (ige p0.To (-1048576))) (ile p0.To 1048576))
def t_runs_fits (p0 : api_Run) : Option Bool := some (u_runs_fits p0)
theorem u_runs_fits_ok (p0 : api_Run) : FC env 112 [.agg [.int .i64 p0.From, .int .i64 p0.To]] none = some (.bool (u_runs_fits p0), fun _ => none) := by
  unfold u_runs_fits
  refine FC_pure (lf := lf112) rfl rfl rfl ?_
  simp only [lf112, lc112, c112_0, c112_1]
  rcases tof (ige p0.From (-1048576)) with a1 | a1
  · rcases tof (ile p0.From 1048576) with a2 | a2
    · rcases tof (ige p0.To (-1048576)) with a3 | a3
      · simp (maxSteps := 4000000) [a1, a2, a3, e_i64, e_sl_api_Row, e_sl_api_Run, e_api_Cell, e_api_Region, e_api_Row, e_api_Run]
      · simp (maxSteps := 4000000) [a1, a2, a3, e_i64, e_sl_api_Row, e_sl_api_Run, e_api_Cell, e_api_Region, e_api_Row, e_api_Run]
    · simp (maxSteps := 4000000) [a1, a2, e_i64, e_sl_api_Row, e_sl_api_Run, e_api_Cell, e_api_Region, e_api_Row, e_api_Run]
  · simp (maxSteps := 4000000) [a1, e_i64, e_sl_api_Row, e_sl_api_Run, e_api_Cell, e_api_Region, e_api_Row, e_api_Run]
theorem t_runs_fits_ok {p0 : api_Run} {r : Bool} (h : t_runs_fits p0 = some r) : FC env 112 [.agg [.int .i64 p0.From, .int .i64 p0.To]] none = some (.bool r, fun _ => none) := by
  cases h
  exact u_runs_fits_ok _

/-! runs.Valid -/
theorem c90_L0_u (Γ : Env) (ps : List Nat) (σ : St) : EC Γ ps 0 c90_L0 σ = EC Γ ps 0 (.seq (.reg false c90_2) (.seq (.cond (.t 8) .skip (.seq (.trim []) (.exit 0))) (.seq (.blk 1 (.seq (.reg false c90_3) (.seq (.reg true c90_4) (.cond (.t 36) (.seq (.reg false c90_5) (.seq (.trim [2]) .ret)) .skip)))) (.reg false c90_6)))) σ := rfl
def t_runs_Valid_L0 (k0 : (FS api_Run)) (k1 : (FS api_Run)) (k2 : Int) (s : Int) : Option (LR Int (Bool ⊕ Unit)) := match s with
 | s0 => (if (ilt s0 k2) = true then (match fget k1 s0 with
 | none => none
 | some v4 => (match gOpt (band (bnot (bor (ige v4.From v4.To) (bnot (u_runs_fits v4)))) (igt s0 0)) (fget k0 (isub .i64 s0 1)) with
 | none => none
 | some v8 => (if (bor (bor (ige v4.From v4.To) (bnot (u_runs_fits v4))) (band (igt s0 0) (ile v4.From (((v8.getD (⟨0, 0⟩ : api_Run))).To)))) = true then some (.dn (.inl false))
 else some (.nx (iadd .i64 s0 1)))))
 else some (.dn (.inr ())))
def t_runs_Valid_L0_st (k0 : (FS api_Run)) (k1 : (FS api_Run)) (k2 : Int) (s : Int) : St := match s with
 | s0 => ⟨fr [(0, encF e_api_Run k0), (5, encF e_api_Run k1), (6, .int .i64 k2), (7, .int .i64 s0)], hl []⟩
def t_runs_Valid_L0_out (k0 : (FS api_Run)) (k1 : (FS api_Run)) (k2 : Int) (x : (Bool ⊕ Unit)) : LE × St := match x with
 | .inl x => (.ret, ⟨fr [(2, .bool x)], hl []⟩)
 | .inr x => (.exit 0, ⟨fr [], hl []⟩)
theorem t_runs_Valid_L0_ok {k0 : (FS api_Run)} {k1 : (FS api_Run)} {k2 : Int} {s : Int} {r : (Bool ⊕ Unit)} (h : loopT (t_runs_Valid_L0 k0 k1 k2) bigN s = some r) : LK env [] 0 [0, 5, 6, 7] c90_L0 (some (t_runs_Valid_L0_st k0 k1 k2 s)) = some (t_runs_Valid_L0_out k0 k1 k2 r) := loop_walk (st := t_runs_Valid_L0_st k0 k1 k2) (out := t_runs_Valid_L0_out k0 k1 k2) (by
  clear h s r
  rintro s0 x h
  simp only [t_runs_Valid_L0] at h
  by_cases c1 : (ilt s0 k2) = true
  · rw [if_pos c1] at h
    cases h3 : fget k1 s0 with
    | none => (rw [h3] at h; cases h)
    | some v4 =>
      simp only [h3] at h
      have f2 := iaddr_F (e := e_api_Run) h3
      have f5 := u_runs_fits_ok v4
      cases h7 : gOpt (band (bnot (bor (ige v4.From v4.To) (bnot (u_runs_fits v4)))) (igt s0 0)) (fget k0 (isub .i64 s0 1)) with
      | none => (rw [h7] at h; cases h)
      | some v8 =>
        simp only [h7] at h
        have f6 := fun (q0 : (bor (ige v4.From v4.To) (bnot (u_runs_fits v4))) = false) (q1 : (igt s0 0) = true) => iaddr_F (e := e_api_Run) (gOpt_getD (⟨0, 0⟩ : api_Run) h7 (band_mk (bnot_mk q0) q1))
        by_cases c9 : (bor (bor (ige v4.From v4.To) (bnot (u_runs_fits v4))) (band (igt s0 0) (ile v4.From (((v8.getD (⟨0, 0⟩ : api_Run))).To)))) = true
        · rw [if_pos c9] at h
          cases h
          show LK env [] 0 [0, 5, 6, 7] c90_L0 (some (t_runs_Valid_L0_st _ _ _ _)) = some (t_runs_Valid_L0_out _ _ _ _)
          simp only [t_runs_Valid_L0_st, t_runs_Valid_L0_out]
          rw [LK_step]
          rcases tof (ige v4.From v4.To) with a10 | a10
          · simp (maxSteps := 4000000) [c1, a10, f2, f5, f6, e_i64, e_sl_api_Row, e_sl_api_Run, e_api_Cell, e_api_Region, e_api_Row, e_api_Run, ↓c90_L0_u, c90_0, c90_1, c90_2, c90_3, c90_4, c90_5, c90_6, c90_8]
          · rcases tof (u_runs_fits v4) with a11 | a11
            · rcases tof (igt s0 0) with a12 | a12
              · rcases tof (ile v4.From (((v8.getD (⟨0, 0⟩ : api_Run))).To)) with a13 | a13
                · simp (maxSteps := 4000000) [c1, a10, a11, a12, a13, f2, f5, f6, e_i64, e_sl_api_Row, e_sl_api_Run, e_api_Cell, e_api_Region, e_api_Row, e_api_Run, ↓c90_L0_u, c90_0, c90_1, c90_2, c90_3, c90_4, c90_5, c90_6, c90_8]
                · simp [c1, a10, a11, a12, a13] at c9
              · simp [c1, a10, a11, a12] at c9
            · simp (maxSteps := 4000000) [c1, a10, a11, f2, f5, f6, e_i64, e_sl_api_Row, e_sl_api_Run, e_api_Cell, e_api_Region, e_api_Row, e_api_Run, ↓c90_L0_u, c90_0, c90_1, c90_2, c90_3, c90_4, c90_5, c90_6, c90_8]
        · rw [if_neg c9] at h
          rw [Bool.not_eq_true] at c9
          cases h
          show LK env [] 0 [0, 5, 6, 7] c90_L0 (some (t_runs_Valid_L0_st _ _ _ _)) = LK env [] 0 [0, 5, 6, 7] c90_L0 (some (t_runs_Valid_L0_st _ _ _ _))
          simp only [t_runs_Valid_L0_st]
          rw [LK_step]
          rcases tof (ige v4.From v4.To) with a14 | a14
          · simp [c1, a14] at c9
          · rcases tof (u_runs_fits v4) with a15 | a15
            · rcases tof (igt s0 0) with a16 | a16
              · rcases tof (ile v4.From (((v8.getD (⟨0, 0⟩ : api_Run))).To)) with a17 | a17
                · simp [c1, a14, a15, a16, a17] at c9
                · simp (maxSteps := 4000000) [c1, a14, a15, a16, a17, f2, f5, f6, e_i64, e_sl_api_Row, e_sl_api_Run, e_api_Cell, e_api_Region, e_api_Row, e_api_Run, ↓c90_L0_u, c90_0, c90_1, c90_2, c90_3, c90_4, c90_5, c90_6, c90_8]
              · simp (maxSteps := 4000000) [c1, a14, a15, a16, f2, f5, f6, e_i64, e_sl_api_Row, e_sl_api_Run, e_api_Cell, e_api_Region, e_api_Row, e_api_Run, ↓c90_L0_u, c90_0, c90_1, c90_2, c90_3, c90_4, c90_5, c90_6, c90_8]
            · simp [c1, a14, a15] at c9
  · rw [if_neg c1] at h
    rw [Bool.not_eq_true] at c1
    cases h
    show LK env [] 0 [0, 5, 6, 7] c90_L0 (some (t_runs_Valid_L0_st _ _ _ _)) = some (t_runs_Valid_L0_out _ _ _ _)
    simp only [t_runs_Valid_L0_st, t_runs_Valid_L0_out]
    rw [LK_step]
    simp (maxSteps := 4000000) [c1, e_i64, e_sl_api_Row, e_sl_api_Run, e_api_Cell, e_api_Region, e_api_Row, e_api_Run, ↓c90_L0_u, c90_0, c90_1, c90_2, c90_3, c90_4, c90_5, c90_6, c90_8]) bigN s r h
def t_runs_Valid (p0 : (FS api_Run)) : Option Bool := (match loopT (t_runs_Valid_L0 p0 p0 (flen p0)) bigN 0 with
 | none => none
 | some v11 => (match v11 with
 | .inl v11x => some v11x
 | .inr v11x => some true))
theorem t_runs_Valid_ok {p0 : (FS api_Run)} {r : Bool} (h : t_runs_Valid p0 = some r) : FC env 90 [encF e_api_Run p0] none = some (.bool r, fun _ => none) := by
  unfold t_runs_Valid at h
  cases h18 : loopT (t_runs_Valid_L0 p0 p0 (flen p0)) bigN 0 with
  | none => (rw [h18] at h; cases h)
  | some v19 =>
    simp only [h18] at h
    have f20 := t_runs_Valid_L0_ok h18
    cases v19 with
    | inl v19x =>
      try simp only at h
      simp only [t_runs_Valid_L0_st, t_runs_Valid_L0_out, fset_len] at f20
      try simp only [fcase_nil, fcase_lst, fcase_fsnoc, fcase_fapp, fcase_fset, fcase_frep, fcase_flit, fcase_flst] at f20
      cases h
      refine FC_pure (lf := lf90) rfl rfl rfl ?_
      simp only [lf90, lc90, c90_0, c90_1, c90_2, c90_3, c90_4, c90_5, c90_6, c90_8]
      simp (maxSteps := 4000000) [f20, e_i64, e_sl_api_Row, e_sl_api_Run, e_api_Cell, e_api_Region, e_api_Row, e_api_Run, ↓c90_L0_u]
    | inr v19x =>
      try simp only at h
      simp only [t_runs_Valid_L0_st, t_runs_Valid_L0_out, fset_len] at f20
      try simp only [fcase_nil, fcase_lst, fcase_fsnoc, fcase_fapp, fcase_fset, fcase_frep, fcase_flit, fcase_flst] at f20
      cases h
      refine FC_pure (lf := lf90) rfl rfl rfl ?_
      simp only [lf90, lc90, c90_0, c90_1, c90_2, c90_3, c90_4, c90_5, c90_6, c90_8]
      simp (maxSteps := 4000000) [f20, e_i64, e_sl_api_Row, e_sl_api_Run, e_api_Cell, e_api_Region, e_api_Row, e_api_Run, ↓c90_L0_u]

/-! region.Valid -/
theorem c57_L0_u (Γ : Env) (ps : List Nat) (σ : St) : EC Γ ps 0 c57_L0 σ = EC Γ ps 0 (.seq (.reg false c57_2) (.seq (.cond (.t 9) .skip (.seq (.trim []) (.exit 0))) (.seq (.blk 1 (.seq (.reg false c57_3) (.seq (.seq (.reg true c57_4) (.cond (.t 44) (.seq (.reg false c57_5) (.seq (.trim [2]) .ret)) .skip)) (.seq (.reg false c57_6) (.cond (.t 65) (.seq (.reg false c57_7) (.seq (.trim [2]) .ret)) .skip))))) (.reg false c57_8)))) σ := rfl
def t_region_Valid_L0 (k0 : api_Region) (k1 : (FS api_Row)) (k2 : Int) (s : Int) : Option (LR Int (Bool ⊕ Unit)) := match s with
 | s0 => (if (ilt s0 k2) = true then (match fget k1 s0 with
 | none => none
 | some v4 => (match gOpt (band (bnot (bnot (u_region_ok v4.Y))) (igt s0 0)) (fget k0.Rows (isub .i64 s0 1)) with
 | none => none
 | some v8 => (match gOpt (bnot (bor (bor (bnot (u_region_ok v4.Y)) (band (igt s0 0) (ile v4.Y (((v8.getD (⟨0, (FS.nil : (FS api_Run))⟩ : api_Row))).Y)))) (ieq (flen v4.Runs) 0))) (t_runs_Valid v4.Runs) with
 | none => none
 | some v11 => (if (bor (bor (bor (bnot (u_region_ok v4.Y)) (band (igt s0 0) (ile v4.Y (((v8.getD (⟨0, (FS.nil : (FS api_Run))⟩ : api_Row))).Y)))) (ieq (flen v4.Runs) 0)) (bnot (v11.getD false))) = true then some (.dn (.inl false))
 else (match fget v4.Runs 0 with
 | none => none
 | some v15 => (match gOpt (bnot (bnot (u_region_ok v15.From))) (fget v4.Runs (isub .i64 (flen v4.Runs) 1)) with
 | none => none
 | some v19 => (if (bor (bnot (u_region_ok v15.From)) (bnot (u_region_ok (isub .i64 (((v19.getD (⟨0, 0⟩ : api_Run))).To) 1)))) = true then some (.dn (.inl false))
 else some (.nx (iadd .i64 s0 1)))))))))
 else some (.dn (.inr ())))
def t_region_Valid_L0_st (k0 : api_Region) (k1 : (FS api_Row)) (k2 : Int) (s : Int) : St := match s with
 | s0 => ⟨fr [(1, .ptr 1 0 0), (6, encF e_api_Row k1), (7, .int .i64 k2), (8, .int .i64 s0)], hl [(1, .box 0 [encF e_api_Row k0.Rows])]⟩
def t_region_Valid_L0_out (k0 : api_Region) (k1 : (FS api_Row)) (k2 : Int) (x : (Bool ⊕ Unit)) : LE × St := match x with
 | .inl x => (.ret, ⟨fr [(2, .bool x)], hl []⟩)
 | .inr x => (.exit 0, ⟨fr [], hl []⟩)
theorem t_region_Valid_L0_ok {k0 : api_Region} {k1 : (FS api_Row)} {k2 : Int} {s : Int} {r : (Bool ⊕ Unit)} (h : loopT (t_region_Valid_L0 k0 k1 k2) bigN s = some r) : LK env [] 0 [1, 6, 7, 8] c57_L0 (some (t_region_Valid_L0_st k0 k1 k2 s)) = some (t_region_Valid_L0_out k0 k1 k2 r) := loop_walk (st := t_region_Valid_L0_st k0 k1 k2) (out := t_region_Valid_L0_out k0 k1 k2) (by
  clear h s r
  rintro s0 x h
  simp only [t_region_Valid_L0] at h
  by_cases c1 : (ilt s0 k2) = true
  · rw [if_pos c1] at h
    cases h3 : fget k1 s0 with
    | none => (rw [h3] at h; cases h)
    | some v4 =>
      simp only [h3] at h
      have f2 := iaddr_F (e := e_api_Row) h3
      have f5 := u_region_ok_ok v4.Y
      cases h7 : gOpt (band (bnot (bnot (u_region_ok v4.Y))) (igt s0 0)) (fget k0.Rows (isub .i64 s0 1)) with
      | none => (rw [h7] at h; cases h)
      | some v8 =>
        simp only [h7] at h
        have f6 := fun (q0 : (bnot (u_region_ok v4.Y)) = false) (q1 : (igt s0 0) = true) => iaddr_F (e := e_api_Row) (gOpt_getD (⟨0, (FS.nil : (FS api_Run))⟩ : api_Row) h7 (band_mk (bnot_mk q0) q1))
        cases h10 : gOpt (bnot (bor (bor (bnot (u_region_ok v4.Y)) (band (igt s0 0) (ile v4.Y (((v8.getD (⟨0, (FS.nil : (FS api_Run))⟩ : api_Row))).Y)))) (ieq (flen v4.Runs) 0))) (t_runs_Valid v4.Runs) with
        | none => (rw [h10] at h; cases h)
        | some v11 =>
          simp only [h10] at h
          have f9 := fun (q0 : (bor (bor (bnot (u_region_ok v4.Y)) (band (igt s0 0) (ile v4.Y (((v8.getD (⟨0, (FS.nil : (FS api_Run))⟩ : api_Row))).Y)))) (ieq (flen v4.Runs) 0)) = false) => t_runs_Valid_ok (gOpt_getD false h10 (bnot_mk q0))
          by_cases c12 : (bor (bor (bor (bnot (u_region_ok v4.Y)) (band (igt s0 0) (ile v4.Y (((v8.getD (⟨0, (FS.nil : (FS api_Run))⟩ : api_Row))).Y)))) (ieq (flen v4.Runs) 0)) (bnot (v11.getD false))) = true
          · rw [if_pos c12] at h
            cases h
            show LK env [] 0 [1, 6, 7, 8] c57_L0 (some (t_region_Valid_L0_st _ _ _ _)) = some (t_region_Valid_L0_out _ _ _ _)
            simp only [t_region_Valid_L0_st, t_region_Valid_L0_out]
            rw [LK_step]
            rcases tof (u_region_ok v4.Y) with a13 | a13
            · rcases tof (igt s0 0) with a14 | a14
              · rcases tof (ile v4.Y (((v8.getD (⟨0, (FS.nil : (FS api_Run))⟩ : api_Row))).Y)) with a15 | a15
                · simp (maxSteps := 4000000) [c1, a13, a14, a15, f2, f5, f6, f9, e_i64, e_sl_api_Row, e_sl_api_Run, e_api_Cell, e_api_Region, e_api_Row, e_api_Run, ↓c57_L0_u, c57_0, c57_1, c57_2, c57_3, c57_4, c57_5, c57_6, c57_7, c57_8, c57_10]
                · rcases tof (ieq (flen v4.Runs) 0) with a16 | a16
                  · simp (maxSteps := 4000000) [c1, a13, a14, a15, a16, f2, f5, f6, f9, e_i64, e_sl_api_Row, e_sl_api_Run, e_api_Cell, e_api_Region, e_api_Row, e_api_Run, ↓c57_L0_u, c57_0, c57_1, c57_2, c57_3, c57_4, c57_5, c57_6, c57_7, c57_8, c57_10]
                  · rcases tof (v11.getD false) with a17 | a17
                    · simp [c1, a13, a14, a15, a16, a17] at c12
                    · simp (maxSteps := 4000000) [c1, a13, a14, a15, a16, a17, f2, f5, f6, f9, e_i64, e_sl_api_Row, e_sl_api_Run, e_api_Cell, e_api_Region, e_api_Row, e_api_Run, ↓c57_L0_u, c57_0, c57_1, c57_2, c57_3, c57_4, c57_5, c57_6, c57_7, c57_8, c57_10]
              · rcases tof (ieq (flen v4.Runs) 0) with a18 | a18
                · simp (maxSteps := 4000000) [c1, a13, a14, a18, f2, f5, f6, f9, e_i64, e_sl_api_Row, e_sl_api_Run, e_api_Cell, e_api_Region, e_api_Row, e_api_Run, ↓c57_L0_u, c57_0, c57_1, c57_2, c57_3, c57_4, c57_5, c57_6, c57_7, c57_8, c57_10]
                · rcases tof (v11.getD false) with a19 | a19
                  · simp [c1, a13, a14, a18, a19] at c12
                  · simp (maxSteps := 4000000) [c1, a13, a14, a18, a19, f2, f5, f6, f9, e_i64, e_sl_api_Row, e_sl_api_Run, e_api_Cell, e_api_Region, e_api_Row, e_api_Run, ↓c57_L0_u, c57_0, c57_1, c57_2, c57_3, c57_4, c57_5, c57_6, c57_7, c57_8, c57_10]
            · simp (maxSteps := 4000000) [c1, a13, f2, f5, f6, f9, e_i64, e_sl_api_Row, e_sl_api_Run, e_api_Cell, e_api_Region, e_api_Row, e_api_Run, ↓c57_L0_u, c57_0, c57_1, c57_2, c57_3, c57_4, c57_5, c57_6, c57_7, c57_8, c57_10]
          · rw [if_neg c12] at h
            rw [Bool.not_eq_true] at c12
            cases h21 : fget v4.Runs 0 with
            | none => (rw [h21] at h; cases h)
            | some v22 =>
              simp only [h21] at h
              have f20 := iaddr_F (e := e_api_Run) h21
              have f23 := u_region_ok_ok v22.From
              cases h25 : gOpt (bnot (bnot (u_region_ok v22.From))) (fget v4.Runs (isub .i64 (flen v4.Runs) 1)) with
              | none => (rw [h25] at h; cases h)
              | some v26 =>
                simp only [h25] at h
                have f24 := fun (q0 : (bnot (u_region_ok v22.From)) = false) => iaddr_F (e := e_api_Run) (gOpt_getD (⟨0, 0⟩ : api_Run) h25 (bnot_mk q0))
                have f27 := u_region_ok_ok (isub .i64 (((v26.getD (⟨0, 0⟩ : api_Run))).To) 1)
                by_cases c28 : (bor (bnot (u_region_ok v22.From)) (bnot (u_region_ok (isub .i64 (((v26.getD (⟨0, 0⟩ : api_Run))).To) 1)))) = true
                · rw [if_pos c28] at h
                  cases h
                  show LK env [] 0 [1, 6, 7, 8] c57_L0 (some (t_region_Valid_L0_st _ _ _ _)) = some (t_region_Valid_L0_out _ _ _ _)
                  simp only [t_region_Valid_L0_st, t_region_Valid_L0_out]
                  rw [LK_step]
                  rcases tof (u_region_ok v4.Y) with a29 | a29
                  · rcases tof (igt s0 0) with a30 | a30
                    · rcases tof (ile v4.Y (((v8.getD (⟨0, (FS.nil : (FS api_Run))⟩ : api_Row))).Y)) with a31 | a31
                      · simp [c1, a29, a30, a31] at c12
                      · rcases tof (ieq (flen v4.Runs) 0) with a32 | a32
                        · simp [c1, a29, a30, a31, a32] at c12
                        · rcases tof (v11.getD false) with a33 | a33
                          · rcases tof (u_region_ok v22.From) with a34 | a34
                            · rcases tof (u_region_ok (isub .i64 (((v26.getD (⟨0, 0⟩ : api_Run))).To) 1)) with a35 | a35
                              · simp [c1, a29, a30, a31, a32, a33, a34, a35] at c28
                              · simp (maxSteps := 4000000) [c1, a29, a30, a31, a32, a33, a34, a35, f2, f5, f6, f9, f20, f23, f24, f27, e_i64, e_sl_api_Row, e_sl_api_Run, e_api_Cell, e_api_Region, e_api_Row, e_api_Run, ↓c57_L0_u, c57_0, c57_1, c57_2, c57_3, c57_4, c57_5, c57_6, c57_7, c57_8, c57_10]
                            · simp (maxSteps := 4000000) [c1, a29, a30, a31, a32, a33, a34, f2, f5, f6, f9, f20, f23, f24, f27, e_i64, e_sl_api_Row, e_sl_api_Run, e_api_Cell, e_api_Region, e_api_Row, e_api_Run, ↓c57_L0_u, c57_0, c57_1, c57_2, c57_3, c57_4, c57_5, c57_6, c57_7, c57_8, c57_10]
                          · simp [c1, a29, a30, a31, a32, a33] at c12
                    · rcases tof (ieq (flen v4.Runs) 0) with a36 | a36
                      · simp [c1, a29, a30, a36] at c12
                      · rcases tof (v11.getD false) with a37 | a37
                        · rcases tof (u_region_ok v22.From) with a38 | a38
                          · rcases tof (u_region_ok (isub .i64 (((v26.getD (⟨0, 0⟩ : api_Run))).To) 1)) with a39 | a39
                            · simp [c1, a29, a30, a36, a37, a38, a39] at c28
                            · simp (maxSteps := 4000000) [c1, a29, a30, a36, a37, a38, a39, f2, f5, f6, f9, f20, f23, f24, f27, e_i64, e_sl_api_Row, e_sl_api_Run, e_api_Cell, e_api_Region, e_api_Row, e_api_Run, ↓c57_L0_u, c57_0, c57_1, c57_2, c57_3, c57_4, c57_5, c57_6, c57_7, c57_8, c57_10]
                          · simp (maxSteps := 4000000) [c1, a29, a30, a36, a37, a38, f2, f5, f6, f9, f20, f23, f24, f27, e_i64, e_sl_api_Row, e_sl_api_Run, e_api_Cell, e_api_Region, e_api_Row, e_api_Run, ↓c57_L0_u, c57_0, c57_1, c57_2, c57_3, c57_4, c57_5, c57_6, c57_7, c57_8, c57_10]
                        · simp [c1, a29, a30, a36, a37] at c12
                  · simp [c1, a29] at c12
                · rw [if_neg c28] at h
                  rw [Bool.not_eq_true] at c28
                  cases h
                  show LK env [] 0 [1, 6, 7, 8] c57_L0 (some (t_region_Valid_L0_st _ _ _ _)) = LK env [] 0 [1, 6, 7, 8] c57_L0 (some (t_region_Valid_L0_st _ _ _ _))
                  simp only [t_region_Valid_L0_st]
                  rw [LK_step]
                  rcases tof (u_region_ok v4.Y) with a40 | a40
                  · rcases tof (igt s0 0) with a41 | a41
                    · rcases tof (ile v4.Y (((v8.getD (⟨0, (FS.nil : (FS api_Run))⟩ : api_Row))).Y)) with a42 | a42
                      · simp [c1, a40, a41, a42] at c12
                      · rcases tof (ieq (flen v4.Runs) 0) with a43 | a43
                        · simp [c1, a40, a41, a42, a43] at c12
                        · rcases tof (v11.getD false) with a44 | a44
                          · rcases tof (u_region_ok v22.From) with a45 | a45
                            · rcases tof (u_region_ok (isub .i64 (((v26.getD (⟨0, 0⟩ : api_Run))).To) 1)) with a46 | a46
                              · simp (maxSteps := 4000000) [c1, a40, a41, a42, a43, a44, a45, a46, f2, f5, f6, f9, f20, f23, f24, f27, e_i64, e_sl_api_Row, e_sl_api_Run, e_api_Cell, e_api_Region, e_api_Row, e_api_Run, ↓c57_L0_u, c57_0, c57_1, c57_2, c57_3, c57_4, c57_5, c57_6, c57_7, c57_8, c57_10]
                              · simp [c1, a40, a41, a42, a43, a44, a45, a46] at c28
                            · simp [c1, a40, a41, a42, a43, a44, a45] at c28
                          · simp [c1, a40, a41, a42, a43, a44] at c12
                    · rcases tof (ieq (flen v4.Runs) 0) with a47 | a47
                      · simp [c1, a40, a41, a47] at c12
                      · rcases tof (v11.getD false) with a48 | a48
                        · rcases tof (u_region_ok v22.From) with a49 | a49
                          · rcases tof (u_region_ok (isub .i64 (((v26.getD (⟨0, 0⟩ : api_Run))).To) 1)) with a50 | a50
                            · simp (maxSteps := 4000000) [c1, a40, a41, a47, a48, a49, a50, f2, f5, f6, f9, f20, f23, f24, f27, e_i64, e_sl_api_Row, e_sl_api_Run, e_api_Cell, e_api_Region, e_api_Row, e_api_Run, ↓c57_L0_u, c57_0, c57_1, c57_2, c57_3, c57_4, c57_5, c57_6, c57_7, c57_8, c57_10]
                            · simp [c1, a40, a41, a47, a48, a49, a50] at c28
                          · simp [c1, a40, a41, a47, a48, a49] at c28
                        · simp [c1, a40, a41, a47, a48] at c12
                  · simp [c1, a40] at c12
  · rw [if_neg c1] at h
    rw [Bool.not_eq_true] at c1
    cases h
    show LK env [] 0 [1, 6, 7, 8] c57_L0 (some (t_region_Valid_L0_st _ _ _ _)) = some (t_region_Valid_L0_out _ _ _ _)
    simp only [t_region_Valid_L0_st, t_region_Valid_L0_out]
    rw [LK_step]
    simp (maxSteps := 4000000) [c1, e_i64, e_sl_api_Row, e_sl_api_Run, e_api_Cell, e_api_Region, e_api_Row, e_api_Run, ↓c57_L0_u, c57_0, c57_1, c57_2, c57_3, c57_4, c57_5, c57_6, c57_7, c57_8, c57_10]) bigN s r h
def t_region_Valid (p0 : api_Region) : Option Bool := (match loopT (t_region_Valid_L0 p0 p0.Rows (flen p0.Rows)) bigN 0 with
 | none => none
 | some v23 => (match v23 with
 | .inl v23x => some v23x
 | .inr v23x => some true))
theorem t_region_Valid_ok {p0 : api_Region} {r : Bool} (h : t_region_Valid p0 = some r) : FC env 57 [.agg [encF e_api_Row p0.Rows]] none = some (.bool r, fun _ => none) := by
  unfold t_region_Valid at h
  cases h51 : loopT (t_region_Valid_L0 p0 p0.Rows (flen p0.Rows)) bigN 0 with
  | none => (rw [h51] at h; cases h)
  | some v52 =>
    simp only [h51] at h
    have f53 := t_region_Valid_L0_ok h51
    cases v52 with
    | inl v52x =>
      try simp only at h
      simp only [t_region_Valid_L0_st, t_region_Valid_L0_out, fset_len] at f53
      try simp only [fcase_nil, fcase_lst, fcase_fsnoc, fcase_fapp, fcase_fset, fcase_frep, fcase_flit, fcase_flst] at f53
      cases h
      refine FC_pure (lf := lf57) rfl rfl rfl ?_
      simp only [lf57, lc57, c57_0, c57_1, c57_2, c57_3, c57_4, c57_5, c57_6, c57_7, c57_8, c57_10]
      simp (maxSteps := 4000000) [f53, e_i64, e_sl_api_Row, e_sl_api_Run, e_api_Cell, e_api_Region, e_api_Row, e_api_Run, ↓c57_L0_u]
    | inr v52x =>
      try simp only at h
      simp only [t_region_Valid_L0_st, t_region_Valid_L0_out, fset_len] at f53
      try simp only [fcase_nil, fcase_lst, fcase_fsnoc, fcase_fapp, fcase_fset, fcase_frep, fcase_flit, fcase_flst] at f53
      cases h
      refine FC_pure (lf := lf57) rfl rfl rfl ?_
      simp only [lf57, lc57, c57_0, c57_1, c57_2, c57_3, c57_4, c57_5, c57_6, c57_7, c57_8, c57_10]
      simp (maxSteps := 4000000) [f53, e_i64, e_sl_api_Row, e_sl_api_Run, e_api_Cell, e_api_Region, e_api_Row, e_api_Run, ↓c57_L0_u]

/-! cmp.isNaN[int] -/
def u_cmp_isNaN (p0 : Int) : Bool := (ine p0 p0)
def t_cmp_isNaN (p0 : Int) : Option Bool := some (u_cmp_isNaN p0)
theorem u_cmp_isNaN_ok (p0 : Int) : FC env 114 [.int .i64 p0] none = some (.bool (u_cmp_isNaN p0), fun _ => none) := by
  unfold u_cmp_isNaN
  refine FC_pure (lf := lf114) rfl rfl rfl ?_
  simp only [lf114, lc114, c114_0, c114_1]
  simp (maxSteps := 4000000) [e_i64, e_sl_api_Row, e_sl_api_Run, e_api_Cell, e_api_Region, e_api_Row, e_api_Run]
theorem t_cmp_isNaN_ok {p0 : Int} {r : Bool} (h : t_cmp_isNaN p0 = some r) : FC env 114 [.int .i64 p0] none = some (.bool r, fun _ => none) := by
  cases h
  exact u_cmp_isNaN_ok _

/-! cmp.Compare[int] -/
def t_cmp_Compare (p0 : Int) (p1 : Int) : Option Int := (if (u_cmp_isNaN p0) = true then (if (u_cmp_isNaN p1) = true then some 0
 else some (-1))
 else (if (u_cmp_isNaN p1) = true then some 1
 else (if (ilt p0 p1) = true then some (-1)
 else (if (igt p0 p1) = true then some 1
 else some 0))))
theorem t_cmp_Compare_ok {p0 : Int} {p1 : Int} {r : Int} (h : t_cmp_Compare p0 p1 = some r) : FC env 95 [.int .i64 p0, .int .i64 p1] none = some (.int .i64 r, fun _ => none) := by
  unfold t_cmp_Compare at h
  have f1 := u_cmp_isNaN_ok p0
  have f2 := u_cmp_isNaN_ok p1
  by_cases c3 : (u_cmp_isNaN p0) = true
  · rw [if_pos c3] at h
    by_cases c4 : (u_cmp_isNaN p1) = true
    · rw [if_pos c4] at h
      cases h
      refine FC_pure (lf := lf95) rfl rfl rfl ?_
      simp only [lf95, lc95, c95_0, c95_1, c95_2, c95_3, c95_4, c95_5, c95_6, c95_7, c95_8, c95_9, c95_10, c95_11, c95_12, c95_13]
      simp (maxSteps := 4000000) [c3, c4, f1, f2, e_i64, e_sl_api_Row, e_sl_api_Run, e_api_Cell, e_api_Region, e_api_Row, e_api_Run]
    · rw [if_neg c4] at h
      rw [Bool.not_eq_true] at c4
      cases h
      refine FC_pure (lf := lf95) rfl rfl rfl ?_
      simp only [lf95, lc95, c95_0, c95_1, c95_2, c95_3, c95_4, c95_5, c95_6, c95_7, c95_8, c95_9, c95_10, c95_11, c95_12, c95_13]
      simp (maxSteps := 4000000) [c3, c4, f1, f2, e_i64, e_sl_api_Row, e_sl_api_Run, e_api_Cell, e_api_Region, e_api_Row, e_api_Run]
  · rw [if_neg c3] at h
    rw [Bool.not_eq_true] at c3
    by_cases c5 : (u_cmp_isNaN p1) = true
    · rw [if_pos c5] at h
      cases h
      refine FC_pure (lf := lf95) rfl rfl rfl ?_
      simp only [lf95, lc95, c95_0, c95_1, c95_2, c95_3, c95_4, c95_5, c95_6, c95_7, c95_8, c95_9, c95_10, c95_11, c95_12, c95_13]
      simp (maxSteps := 4000000) [c3, c5, f1, f2, e_i64, e_sl_api_Row, e_sl_api_Run, e_api_Cell, e_api_Region, e_api_Row, e_api_Run]
    · rw [if_neg c5] at h
      rw [Bool.not_eq_true] at c5
      by_cases c6 : (ilt p0 p1) = true
      · rw [if_pos c6] at h
        cases h
        refine FC_pure (lf := lf95) rfl rfl rfl ?_
        simp only [lf95, lc95, c95_0, c95_1, c95_2, c95_3, c95_4, c95_5, c95_6, c95_7, c95_8, c95_9, c95_10, c95_11, c95_12, c95_13]
        simp (maxSteps := 4000000) [c3, c5, c6, f1, f2, e_i64, e_sl_api_Row, e_sl_api_Run, e_api_Cell, e_api_Region, e_api_Row, e_api_Run]
      · rw [if_neg c6] at h
        rw [Bool.not_eq_true] at c6
        by_cases c7 : (igt p0 p1) = true
        · rw [if_pos c7] at h
          cases h
          refine FC_pure (lf := lf95) rfl rfl rfl ?_
          simp only [lf95, lc95, c95_0, c95_1, c95_2, c95_3, c95_4, c95_5, c95_6, c95_7, c95_8, c95_9, c95_10, c95_11, c95_12, c95_13]
          simp (maxSteps := 4000000) [c3, c5, c6, c7, f1, f2, e_i64, e_sl_api_Row, e_sl_api_Run, e_api_Cell, e_api_Region, e_api_Row, e_api_Run]
        · rw [if_neg c7] at h
          rw [Bool.not_eq_true] at c7
          cases h
          refine FC_pure (lf := lf95) rfl rfl rfl ?_
          simp only [lf95, lc95, c95_0, c95_1, c95_2, c95_3, c95_4, c95_5, c95_6, c95_7, c95_8, c95_9, c95_10, c95_11, c95_12, c95_13]
          simp (maxSteps := 4000000) [c3, c5, c6, c7, f1, f2, e_i64, e_sl_api_Row, e_sl_api_Run, e_api_Cell, e_api_Region, e_api_Row, e_api_Run]

/-! region.row$1 -/
def t_region_row_1 (p0 : api_Row) (p1 : Int) : Option Int := (match t_cmp_Compare p0.Y p1 with
 | none => none
 | some v3 => some v3)
theorem t_region_row_1_ok {p0 : api_Row} {p1 : Int} {r : Int} (h : t_region_row_1 p0 p1 = some r) : FC env 94 [.agg [.int .i64 p0.Y, encF e_api_Run p0.Runs], .int .i64 p1] none = some (.int .i64 r, fun _ => none) := by
  unfold t_region_row_1 at h
  cases h2 : t_cmp_Compare p0.Y p1 with
  | none => (rw [h2] at h; cases h)
  | some v3 =>
    simp only [h2] at h
    have f1 := t_cmp_Compare_ok h2
    cases h
    refine FC_pure (lf := lf94) rfl rfl rfl ?_
    simp only [lf94, lc94, c94_0, c94_1]
    simp (maxSteps := 4000000) [f1, e_i64, e_sl_api_Row, e_sl_api_Run, e_api_Cell, e_api_Region, e_api_Row, e_api_Run]

/-! api.Row,int] -/
theorem c93_L0_u (Γ : Env) (ps : List Nat) (σ : St) : EC Γ ps 0 c93_L0 σ = EC Γ ps 0 (.seq (.seq (.reg false c93_3) (.cond (.t 17) .skip (.seq (.trim [0, 1, 2, 8, 9]) (.exit 0)))) (.blk 1 (.seq (.reg false c93_4) (.seq (.reg false c93_5) (.cond (.t 31) (.reg false c93_6) (.reg false c93_7)))))) σ := rfl
def t_slices_BinarySearchFunc_api_Row_api_Row_int_region_row_1_L0 (k0 : (FS api_Row)) (k1 : Int) (k2 : Int) (s : (Int × Int)) : Option (LR (Int × Int) Int) := match s with
 | (s0, s1) => (if (ilt s0 s1) = true then (match fget k0 (icnv .i64 (ishr .u64 (icnv .u64 (iadd .i64 s0 s1)) 1)) with
 | none => none
 | some v4 => (match t_region_row_1 v4 k1 with
 | none => none
 | some v7 => (if (ilt v7 0) = true then some (.nx ((iadd .i64 (icnv .i64 (ishr .u64 (icnv .u64 (iadd .i64 s0 s1)) 1)) 1), s1))
 else some (.nx (s0, (icnv .i64 (ishr .u64 (icnv .u64 (iadd .i64 s0 s1)) 1)))))))
 else some (.dn s0))
def t_slices_BinarySearchFunc_api_Row_api_Row_int_region_row_1_L0_st (k0 : (FS api_Row)) (k1 : Int) (k2 : Int) (s : (Int × Int)) : St := match s with
 | (s0, s1) => ⟨fr [(0, encF e_api_Row k0), (1, .int .i64 k1), (2, .fn 94 []), (8, .int .i64 k2), (9, .int .i64 s0), (10, .int .i64 s1)], hl []⟩
def t_slices_BinarySearchFunc_api_Row_api_Row_int_region_row_1_L0_out (k0 : (FS api_Row)) (k1 : Int) (k2 : Int) (x : Int) : LE × St := (.exit 0, ⟨fr [(0, encF e_api_Row k0), (1, .int .i64 k1), (2, .fn 94 []), (8, .int .i64 k2), (9, .int .i64 x)], hl []⟩)
theorem t_slices_BinarySearchFunc_api_Row_api_Row_int_region_row_1_L0_ok {k0 : (FS api_Row)} {k1 : Int} {k2 : Int} {s : (Int × Int)} {r : Int} (h : loopT (t_slices_BinarySearchFunc_api_Row_api_Row_int_region_row_1_L0 k0 k1 k2) bigN s = some r) : LK env [] 0 [0, 1, 2, 8, 9, 10] c93_L0 (some (t_slices_BinarySearchFunc_api_Row_api_Row_int_region_row_1_L0_st k0 k1 k2 s)) = some (t_slices_BinarySearchFunc_api_Row_api_Row_int_region_row_1_L0_out k0 k1 k2 r) := loop_walk (st := t_slices_BinarySearchFunc_api_Row_api_Row_int_region_row_1_L0_st k0 k1 k2) (out := t_slices_BinarySearchFunc_api_Row_api_Row_int_region_row_1_L0_out k0 k1 k2) (by
  clear h s r
  rintro ⟨s0, s1⟩ x h
  simp only [t_slices_BinarySearchFunc_api_Row_api_Row_int_region_row_1_L0] at h
  by_cases c1 : (ilt s0 s1) = true
  · rw [if_pos c1] at h
    cases h3 : fget k0 (icnv .i64 (ishr .u64 (icnv .u64 (iadd .i64 s0 s1)) 1)) with
    | none => (rw [h3] at h; cases h)
    | some v4 =>
      simp only [h3] at h
      have f2 := iaddr_F (e := e_api_Row) h3
      cases h6 : t_region_row_1 v4 k1 with
      | none => (rw [h6] at h; cases h)
      | some v7 =>
        simp only [h6] at h
        have f5 := t_region_row_1_ok h6
        by_cases c8 : (ilt v7 0) = true
        · rw [if_pos c8] at h
          cases h
          show LK env [] 0 [0, 1, 2, 8, 9, 10] c93_L0 (some (t_slices_BinarySearchFunc_api_Row_api_Row_int_region_row_1_L0_st _ _ _ _)) = LK env [] 0 [0, 1, 2, 8, 9, 10] c93_L0 (some (t_slices_BinarySearchFunc_api_Row_api_Row_int_region_row_1_L0_st _ _ _ _))
          simp only [t_slices_BinarySearchFunc_api_Row_api_Row_int_region_row_1_L0_st]
          rw [LK_step]
          simp (maxSteps := 4000000) [c1, c8, (show ilt 1 0 = false from rfl), f2, f5, e_i64, e_sl_api_Row, e_sl_api_Run, e_api_Cell, e_api_Region, e_api_Row, e_api_Run, ↓c93_L0_u, c93_0, c93_1, c93_2, c93_3, c93_4, c93_5, c93_6, c93_7, c93_9]
        · rw [if_neg c8] at h
          rw [Bool.not_eq_true] at c8
          cases h
          show LK env [] 0 [0, 1, 2, 8, 9, 10] c93_L0 (some (t_slices_BinarySearchFunc_api_Row_api_Row_int_region_row_1_L0_st _ _ _ _)) = LK env [] 0 [0, 1, 2, 8, 9, 10] c93_L0 (some (t_slices_BinarySearchFunc_api_Row_api_Row_int_region_row_1_L0_st _ _ _ _))
          simp only [t_slices_BinarySearchFunc_api_Row_api_Row_int_region_row_1_L0_st]
          rw [LK_step]
          simp (maxSteps := 4000000) [c1, c8, (show ilt 1 0 = false from rfl), f2, f5, e_i64, e_sl_api_Row, e_sl_api_Run, e_api_Cell, e_api_Region, e_api_Row, e_api_Run, ↓c93_L0_u, c93_0, c93_1, c93_2, c93_3, c93_4, c93_5, c93_6, c93_7, c93_9]
  · rw [if_neg c1] at h
    rw [Bool.not_eq_true] at c1
    cases h
    show LK env [] 0 [0, 1, 2, 8, 9, 10] c93_L0 (some (t_slices_BinarySearchFunc_api_Row_api_Row_int_region_row_1_L0_st _ _ _ _)) = some (t_slices_BinarySearchFunc_api_Row_api_Row_int_region_row_1_L0_out _ _ _ _)
    simp only [t_slices_BinarySearchFunc_api_Row_api_Row_int_region_row_1_L0_st, t_slices_BinarySearchFunc_api_Row_api_Row_int_region_row_1_L0_out]
    rw [LK_step]
    simp (maxSteps := 4000000) [c1, e_i64, e_sl_api_Row, e_sl_api_Run, e_api_Cell, e_api_Region, e_api_Row, e_api_Run, ↓c93_L0_u, c93_0, c93_1, c93_2, c93_3, c93_4, c93_5, c93_6, c93_7, c93_9]) bigN s r h
def t_slices_BinarySearchFunc_api_Row_api_Row_int_region_row_1 (p0 : (FS api_Row)) (p1 : Int) : Option (Int × Bool) := (match loopT (t_slices_BinarySearchFunc_api_Row_api_Row_int_region_row_1_L0 p0 p1 (flen p0)) bigN (0, (flen p0)) with
 | none => none
 | some v10 => (match gOpt (ilt v10 (flen p0)) (fget p0 v10) with
 | none => none
 | some v14 => (match gOpt (ilt v10 (flen p0)) (t_region_row_1 (v14.getD (⟨0, (FS.nil : (FS api_Run))⟩ : api_Row)) p1) with
 | none => none
 | some v17 => some (v10, (band (ilt v10 (flen p0)) (ieq (v17.getD 0) 0))))))
theorem t_slices_BinarySearchFunc_api_Row_api_Row_int_region_row_1_ok {p0 : (FS api_Row)} {p1 : Int} {r : (Int × Bool)} (h : t_slices_BinarySearchFunc_api_Row_api_Row_int_region_row_1 p0 p1 = some r) : FC env 93 [encF e_api_Row p0, .int .i64 p1, .fn 94 []] none = some (.tup [.int .i64 r.1, .bool r.2], fun _ => none) := by
  unfold t_slices_BinarySearchFunc_api_Row_api_Row_int_region_row_1 at h
  cases h9 : loopT (t_slices_BinarySearchFunc_api_Row_api_Row_int_region_row_1_L0 p0 p1 (flen p0)) bigN (0, (flen p0)) with
  | none => (rw [h9] at h; cases h)
  | some v10 =>
    simp only [h9] at h
    have f11 := t_slices_BinarySearchFunc_api_Row_api_Row_int_region_row_1_L0_ok h9
    simp only [t_slices_BinarySearchFunc_api_Row_api_Row_int_region_row_1_L0_st, t_slices_BinarySearchFunc_api_Row_api_Row_int_region_row_1_L0_out, fset_len] at f11
    try simp only [fcase_nil, fcase_lst, fcase_fsnoc, fcase_fapp, fcase_fset, fcase_frep, fcase_flit, fcase_flst] at f11
    cases h13 : gOpt (ilt v10 (flen p0)) (fget p0 v10) with
    | none => (rw [h13] at h; cases h)
    | some v14 =>
      simp only [h13] at h
      have f12 := fun (q0 : (ilt v10 (flen p0)) = true) => iaddr_F (e := e_api_Row) (gOpt_getD (⟨0, (FS.nil : (FS api_Run))⟩ : api_Row) h13 q0)
      cases h16 : gOpt (ilt v10 (flen p0)) (t_region_row_1 (v14.getD (⟨0, (FS.nil : (FS api_Run))⟩ : api_Row)) p1) with
      | none => (rw [h16] at h; cases h)
      | some v17 =>
        simp only [h16] at h
        have f15 := fun (q0 : (ilt v10 (flen p0)) = true) => t_region_row_1_ok (gOpt_getD 0 h16 q0)
        cases h
        refine FC_pure (lf := lf93) rfl rfl rfl ?_
        simp only [lf93, lc93, c93_0, c93_1, c93_2, c93_3, c93_4, c93_5, c93_6, c93_7, c93_9]
        rcases tof (ilt v10 (flen p0)) with a18 | a18
        · try simp only [a18] at f11
          simp (maxSteps := 4000000) [a18, f11, f12, f15, e_i64, e_sl_api_Row, e_sl_api_Run, e_api_Cell, e_api_Region, e_api_Row, e_api_Run, ↓c93_L0_u, snap_tupE, tupS, snap7_int, snap7_bool, snap7_str, snap7_nils, snap7_agg]
        · try simp only [a18] at f11
          simp (maxSteps := 4000000) [a18, f11, f12, f15, e_i64, e_sl_api_Row, e_sl_api_Run, e_api_Cell, e_api_Region, e_api_Row, e_api_Run, ↓c93_L0_u, snap_tupE, tupS, snap7_int, snap7_bool, snap7_str, snap7_nils, snap7_agg]

/-! region.row -/
def t_region_row (p0 : api_Region) (p1 : Int) : Option (FS api_Run) := (match t_slices_BinarySearchFunc_api_Row_api_Row_int_region_row_1 p0.Rows p1 with
 | none => none
 | some v3 => (if (bnot v3.2) = true then some (FS.nil : (FS api_Run))
 else (match fget p0.Rows v3.1 with
 | none => none
 | some v7 => some v7.Runs)))
theorem t_region_row_ok {p0 : api_Region} {p1 : Int} {r : (FS api_Run)} (h : t_region_row p0 p1 = some r) : FC env 59 [.agg [encF e_api_Row p0.Rows], .int .i64 p1] none = some (encF e_api_Run r, fun _ => none) := by
  unfold t_region_row at h
  cases h2 : t_slices_BinarySearchFunc_api_Row_api_Row_int_region_row_1 p0.Rows p1 with
  | none => (rw [h2] at h; cases h)
  | some v3 =>
    simp only [h2] at h
    have f1 := t_slices_BinarySearchFunc_api_Row_api_Row_int_region_row_1_ok h2
    by_cases c4 : (bnot v3.2) = true
    · rw [if_pos c4] at h
      cases h
      refine FC_pure (lf := lf59) rfl rfl rfl ?_
      simp only [lf59, lc59, c59_0, c59_1, c59_2, c59_3, c59_4]
      rcases tof v3.2 with a5 | a5
      · simp [a5] at c4
      · simp (maxSteps := 4000000) [a5, f1, e_i64, e_sl_api_Row, e_sl_api_Run, e_api_Cell, e_api_Region, e_api_Row, e_api_Run]
    · rw [if_neg c4] at h
      rw [Bool.not_eq_true] at c4
      cases h7 : fget p0.Rows v3.1 with
      | none => (rw [h7] at h; cases h)
      | some v8 =>
        simp only [h7] at h
        have f6 := iaddr_F (e := e_api_Row) h7
        cases h
        refine FC_pure (lf := lf59) rfl rfl rfl ?_
        simp only [lf59, lc59, c59_0, c59_1, c59_2, c59_3, c59_4]
        rcases tof v3.2 with a9 | a9
        · simp (maxSteps := 4000000) [a9, f1, f6, e_i64, e_sl_api_Row, e_sl_api_Run, e_api_Cell, e_api_Region, e_api_Row, e_api_Run]
        · simp [a9] at c4

/-! runs.Contains$1 -/
def u_runs_Contains_1 (p0 : api_Run) (p1 : Int) : Bool := (band (ile p0.From p1) (ilt p1 p0.To))
def t_runs_Contains_1 (p0 : api_Run) (p1 : Int) : Option Bool := some (u_runs_Contains_1 p0 p1)
theorem u_runs_Contains_1_ok (p0 : api_Run) (p1 : Int) : FC env 92 [.agg [.int .i64 p0.From, .int .i64 p0.To], .rptr [.int .i64 p1]] none = some (.bool (u_runs_Contains_1 p0 p1), fun _ => none) := by
  unfold u_runs_Contains_1
  refine FC_pure (lf := lf92) rfl rfl rfl ?_
  simp only [lf92, lc92, c92_0, c92_1]
  rcases tof (ile p0.From p1) with a1 | a1
  · simp (maxSteps := 4000000) [a1, e_i64, e_sl_api_Row, e_sl_api_Run, e_api_Cell, e_api_Region, e_api_Row, e_api_Run]
  · simp (maxSteps := 4000000) [a1, e_i64, e_sl_api_Row, e_sl_api_Run, e_api_Cell, e_api_Region, e_api_Row, e_api_Run]
theorem t_runs_Contains_1_ok {p0 : api_Run} {p1 : Int} {r : Bool} (h : t_runs_Contains_1 p0 p1 = some r) : FC env 92 [.agg [.int .i64 p0.From, .int .i64 p0.To], .rptr [.int .i64 p1]] none = some (.bool r, fun _ => none) := by
  cases h
  exact u_runs_Contains_1_ok _ _

/-! api.Run] -/
theorem c113_L0_u (Γ : Env) (ps : List Nat) (σ : St) : EC Γ ps 0 c113_L0 σ = EC Γ ps 0 (.seq (.reg false c113_2) (.seq (.cond (.t 9) .skip (.seq (.trim []) (.exit 0))) (.seq (.blk 1 (.seq (.reg false c113_3) (.seq (.reg false c113_4) (.cond (.t 16) (.seq (.reg false c113_5) (.seq (.trim [4]) .ret)) .skip)))) (.reg false c113_6)))) σ := rfl
def t_slices_IndexFunc_api_Run_api_Run_runs_Contains_1_L0 (k0 : (FS api_Run)) (k1 : Int) (k2 : Int) (s : Int) : Option (LR Int (Int ⊕ Unit)) := match s with
 | s0 => (if (ilt s0 k2) = true then (match fget k0 s0 with
 | none => none
 | some v4 => (if (u_runs_Contains_1 v4 k1) = true then some (.dn (.inl s0))
 else some (.nx (iadd .i64 s0 1))))
 else some (.dn (.inr ())))
def t_slices_IndexFunc_api_Run_api_Run_runs_Contains_1_L0_st (k0 : (FS api_Run)) (k1 : Int) (k2 : Int) (s : Int) : St := match s with
 | s0 => ⟨fr [(0, encF e_api_Run k0), (1, .fn 92 [.rptr [.int .i64 k1]]), (7, .int .i64 k2), (8, .int .i64 s0)], hl []⟩
def t_slices_IndexFunc_api_Run_api_Run_runs_Contains_1_L0_out (k0 : (FS api_Run)) (k1 : Int) (k2 : Int) (x : (Int ⊕ Unit)) : LE × St := match x with
 | .inl x => (.ret, ⟨fr [(4, .int .i64 x)], hl []⟩)
 | .inr x => (.exit 0, ⟨fr [], hl []⟩)
theorem t_slices_IndexFunc_api_Run_api_Run_runs_Contains_1_L0_ok {k0 : (FS api_Run)} {k1 : Int} {k2 : Int} {s : Int} {r : (Int ⊕ Unit)} (h : loopT (t_slices_IndexFunc_api_Run_api_Run_runs_Contains_1_L0 k0 k1 k2) bigN s = some r) : LK env [] 0 [0, 1, 7, 8] c113_L0 (some (t_slices_IndexFunc_api_Run_api_Run_runs_Contains_1_L0_st k0 k1 k2 s)) = some (t_slices_IndexFunc_api_Run_api_Run_runs_Contains_1_L0_out k0 k1 k2 r) := loop_walk (st := t_slices_IndexFunc_api_Run_api_Run_runs_Contains_1_L0_st k0 k1 k2) (out := t_slices_IndexFunc_api_Run_api_Run_runs_Contains_1_L0_out k0 k1 k2) (by
  clear h s r
  rintro s0 x h
  simp only [t_slices_IndexFunc_api_Run_api_Run_runs_Contains_1_L0] at h
  by_cases c1 : (ilt s0 k2) = true
  · rw [if_pos c1] at h
    cases h3 : fget k0 s0 with
    | none => (rw [h3] at h; cases h)
    | some v4 =>
      simp only [h3] at h
      have f2 := iaddr_F (e := e_api_Run) h3
      have f5 := u_runs_Contains_1_ok v4 k1
      by_cases c6 : (u_runs_Contains_1 v4 k1) = true
      · rw [if_pos c6] at h
        cases h
        show LK env [] 0 [0, 1, 7, 8] c113_L0 (some (t_slices_IndexFunc_api_Run_api_Run_runs_Contains_1_L0_st _ _ _ _)) = some (t_slices_IndexFunc_api_Run_api_Run_runs_Contains_1_L0_out _ _ _ _)
        simp only [t_slices_IndexFunc_api_Run_api_Run_runs_Contains_1_L0_st, t_slices_IndexFunc_api_Run_api_Run_runs_Contains_1_L0_out]
        rw [LK_step]
        simp (maxSteps := 4000000) [c1, c6, f2, f5, e_i64, e_sl_api_Row, e_sl_api_Run, e_api_Cell, e_api_Region, e_api_Row, e_api_Run, ↓c113_L0_u, c113_0, c113_1, c113_2, c113_3, c113_4, c113_5, c113_6, c113_8]
      · rw [if_neg c6] at h
        rw [Bool.not_eq_true] at c6
        cases h
        show LK env [] 0 [0, 1, 7, 8] c113_L0 (some (t_slices_IndexFunc_api_Run_api_Run_runs_Contains_1_L0_st _ _ _ _)) = LK env [] 0 [0, 1, 7, 8] c113_L0 (some (t_slices_IndexFunc_api_Run_api_Run_runs_Contains_1_L0_st _ _ _ _))
        simp only [t_slices_IndexFunc_api_Run_api_Run_runs_Contains_1_L0_st]
        rw [LK_step]
        simp (maxSteps := 4000000) [c1, c6, f2, f5, e_i64, e_sl_api_Row, e_sl_api_Run, e_api_Cell, e_api_Region, e_api_Row, e_api_Run, ↓c113_L0_u, c113_0, c113_1, c113_2, c113_3, c113_4, c113_5, c113_6, c113_8]
  · rw [if_neg c1] at h
    rw [Bool.not_eq_true] at c1
    cases h
    show LK env [] 0 [0, 1, 7, 8] c113_L0 (some (t_slices_IndexFunc_api_Run_api_Run_runs_Contains_1_L0_st _ _ _ _)) = some (t_slices_IndexFunc_api_Run_api_Run_runs_Contains_1_L0_out _ _ _ _)
    simp only [t_slices_IndexFunc_api_Run_api_Run_runs_Contains_1_L0_st, t_slices_IndexFunc_api_Run_api_Run_runs_Contains_1_L0_out]
    rw [LK_step]
    simp (maxSteps := 4000000) [c1, e_i64, e_sl_api_Row, e_sl_api_Run, e_api_Cell, e_api_Region, e_api_Row, e_api_Run, ↓c113_L0_u, c113_0, c113_1, c113_2, c113_3, c113_4, c113_5, c113_6, c113_8]) bigN s r h
def t_slices_IndexFunc_api_Run_api_Run_runs_Contains_1 (p0 : (FS api_Run)) (p1_0 : Int) : Option Int := (match loopT (t_slices_IndexFunc_api_Run_api_Run_runs_Contains_1_L0 p0 p1_0 (flen p0)) bigN 0 with
 | none => none
 | some v8 => (match v8 with
 | .inl v8x => some v8x
 | .inr v8x => some (-1)))
theorem t_slices_IndexFunc_api_Run_api_Run_runs_Contains_1_ok {p0 : (FS api_Run)} {p1_0 : Int} {r : Int} (h : t_slices_IndexFunc_api_Run_api_Run_runs_Contains_1 p0 p1_0 = some r) : FC env 113 [encF e_api_Run p0, .fn 92 [.rptr [.int .i64 p1_0]]] none = some (.int .i64 r, fun _ => none) := by
  unfold t_slices_IndexFunc_api_Run_api_Run_runs_Contains_1 at h
  cases h7 : loopT (t_slices_IndexFunc_api_Run_api_Run_runs_Contains_1_L0 p0 p1_0 (flen p0)) bigN 0 with
  | none => (rw [h7] at h; cases h)
  | some v8 =>
    simp only [h7] at h
    have f9 := t_slices_IndexFunc_api_Run_api_Run_runs_Contains_1_L0_ok h7
    cases v8 with
    | inl v8x =>
      try simp only at h
      simp only [t_slices_IndexFunc_api_Run_api_Run_runs_Contains_1_L0_st, t_slices_IndexFunc_api_Run_api_Run_runs_Contains_1_L0_out, fset_len] at f9
      try simp only [fcase_nil, fcase_lst, fcase_fsnoc, fcase_fapp, fcase_fset, fcase_frep, fcase_flit, fcase_flst] at f9
      cases h
      refine FC_pure (lf := lf113) rfl rfl rfl ?_
      simp only [lf113, lc113, c113_0, c113_1, c113_2, c113_3, c113_4, c113_5, c113_6, c113_8]
      simp (maxSteps := 4000000) [f9, e_i64, e_sl_api_Row, e_sl_api_Run, e_api_Cell, e_api_Region, e_api_Row, e_api_Run, ↓c113_L0_u]
    | inr v8x =>
      try simp only at h
      simp only [t_slices_IndexFunc_api_Run_api_Run_runs_Contains_1_L0_st, t_slices_IndexFunc_api_Run_api_Run_runs_Contains_1_L0_out, fset_len] at f9
      try simp only [fcase_nil, fcase_lst, fcase_fsnoc, fcase_fapp, fcase_fset, fcase_frep, fcase_flit, fcase_flst] at f9
      cases h
      refine FC_pure (lf := lf113) rfl rfl rfl ?_
      simp only [lf113, lc113, c113_0, c113_1, c113_2, c113_3, c113_4, c113_5, c113_6, c113_8]
      simp (maxSteps := 4000000) [f9, e_i64, e_sl_api_Row, e_sl_api_Run, e_api_Cell, e_api_Region, e_api_Row, e_api_Run, ↓c113_L0_u]

/-! api.Run] -/
def t_slices_ContainsFunc_api_Run_api_Run_runs_Contains_1 (p0 : (FS api_Run)) (p1_0 : Int) : Option Bool := (match t_slices_IndexFunc_api_Run_api_Run_runs_Contains_1 p0 p1_0 with
 | none => none
 | some v3 => some (ige v3 0))
theorem t_slices_ContainsFunc_api_Run_api_Run_runs_Contains_1_ok {p0 : (FS api_Run)} {p1_0 : Int} {r : Bool} (h : t_slices_ContainsFunc_api_Run_api_Run_runs_Contains_1 p0 p1_0 = some r) : FC env 91 [encF e_api_Run p0, .fn 92 [.rptr [.int .i64 p1_0]]] none = some (.bool r, fun _ => none) := by
  unfold t_slices_ContainsFunc_api_Run_api_Run_runs_Contains_1 at h
  cases h2 : t_slices_IndexFunc_api_Run_api_Run_runs_Contains_1 p0 p1_0 with
  | none => (rw [h2] at h; cases h)
  | some v3 =>
    simp only [h2] at h
    have f1 := t_slices_IndexFunc_api_Run_api_Run_runs_Contains_1_ok h2
    cases h
    refine FC_pure (lf := lf91) rfl rfl rfl ?_
    simp only [lf91, lc91, c91_0, c91_1]
    simp (maxSteps := 4000000) [f1, e_i64, e_sl_api_Row, e_sl_api_Run, e_api_Cell, e_api_Region, e_api_Row, e_api_Run]

/-! runs.Contains -/
def t_runs_Contains (p0 : (FS api_Run)) (p1 : Int) : Option Bool := (match t_runs_Valid p0 with
 | none => none
 | some v3 => (if (bnot v3) = true then some false
 else (match t_slices_ContainsFunc_api_Run_api_Run_runs_Contains_1 p0 p1 with
 | none => none
 | some v7 => some v7)))
theorem t_runs_Contains_ok {p0 : (FS api_Run)} {p1 : Int} {r : Bool} (h : t_runs_Contains p0 p1 = some r) : FC env 58 [encF e_api_Run p0, .int .i64 p1] none = some (.bool r, fun _ => none) := by
  unfold t_runs_Contains at h
  cases h2 : t_runs_Valid p0 with
  | none => (rw [h2] at h; cases h)
  | some v3 =>
    simp only [h2] at h
    have f1 := t_runs_Valid_ok h2
    by_cases c4 : (bnot v3) = true
    · rw [if_pos c4] at h
      cases h
      refine FC_pure (lf := lf58) rfl rfl rfl ?_
      simp only [lf58, lc58, c58_0, c58_1, c58_2, c58_3]
      rcases tof v3 with a5 | a5
      · simp [a5] at c4
      · simp (maxSteps := 4000000) [a5, f1, e_i64, e_sl_api_Row, e_sl_api_Run, e_api_Cell, e_api_Region, e_api_Row, e_api_Run]
    · rw [if_neg c4] at h
      rw [Bool.not_eq_true] at c4
      cases h7 : t_slices_ContainsFunc_api_Run_api_Run_runs_Contains_1 p0 p1 with
      | none => (rw [h7] at h; cases h)
      | some v8 =>
        simp only [h7] at h
        have f6 := t_slices_ContainsFunc_api_Run_api_Run_runs_Contains_1_ok h7
        cases h
        refine FC_pure (lf := lf58) rfl rfl rfl ?_
        simp only [lf58, lc58, c58_0, c58_1, c58_2, c58_3]
        rcases tof v3 with a9 | a9
        · simp (maxSteps := 4000000) [a9, f1, f6, e_i64, e_sl_api_Row, e_sl_api_Run, e_api_Cell, e_api_Region, e_api_Row, e_api_Run]
        · simp [a9] at c4

/-! region.Contains -/
def t_region_Contains (p0 : api_Region) (p1 : api_Cell) : Option Bool := (match t_region_Valid p0 with
 | none => none
 | some v3 => (match gOpt v3 (t_region_row p0 p1.Y) with
 | none => none
 | some v6 => (match gOpt v3 (t_runs_Contains (v6.getD (FS.nil : (FS api_Run))) p1.X) with
 | none => none
 | some v9 => some (band v3 (v9.getD false)))))
theorem t_region_Contains_ok {p0 : api_Region} {p1 : api_Cell} {r : Bool} (h : t_region_Contains p0 p1 = some r) : FC env 29 [.agg [encF e_api_Row p0.Rows], .agg [.int .i64 p1.X, .int .i64 p1.Y]] none = some (.bool r, fun _ => none) := by
  unfold t_region_Contains at h
  cases h2 : t_region_Valid p0 with
  | none => (rw [h2] at h; cases h)
  | some v3 =>
    simp only [h2] at h
    have f1 := t_region_Valid_ok h2
    cases h5 : gOpt v3 (t_region_row p0 p1.Y) with
    | none => (rw [h5] at h; cases h)
    | some v6 =>
      simp only [h5] at h
      have f4 := fun (q0 : v3 = true) => t_region_row_ok (gOpt_getD (FS.nil : (FS api_Run)) h5 q0)
      cases h8 : gOpt v3 (t_runs_Contains (v6.getD (FS.nil : (FS api_Run))) p1.X) with
      | none => (rw [h8] at h; cases h)
      | some v9 =>
        simp only [h8] at h
        have f7 := fun (q0 : v3 = true) => t_runs_Contains_ok (gOpt_getD false h8 q0)
        cases h
        refine FC_pure (lf := lf29) rfl rfl rfl ?_
        simp only [lf29, lc29, c29_0, c29_1]
        rcases tof v3 with a10 | a10
        · simp (maxSteps := 4000000) [a10, f1, f4, f7, e_i64, e_sl_api_Row, e_sl_api_Run, e_api_Cell, e_api_Region, e_api_Row, e_api_Run]
        · simp (maxSteps := 4000000) [a10, f1, f4, f7, e_i64, e_sl_api_Row, e_sl_api_Run, e_api_Cell, e_api_Region, e_api_Row, e_api_Run]

/-! comb.search -/
theorem c48_L0_u (Γ : Env) (ps : List Nat) (σ : St) : EC Γ ps 0 c48_L0 σ = EC Γ ps 0 (.seq (.reg false c48_8) (.seq (.cond (.t 57) .skip (.seq (.trim [3, 5, 7, 8]) (.exit 2))) (.seq (.blk 3 (.seq (.reg false c48_9) (.seq (.reg false c48_10) (.seq (.reg false c48_11) (.cond (.t 71) (.seq (.reg false c48_12) (.reg false c48_13)) .skip))))) (.reg false c48_14)))) σ := rfl
theorem c48_L1_u (Γ : Env) (ps : List Nat) (σ : St) : EC Γ ps 0 c48_L1 σ = EC Γ ps 0 (.seq (.seq (.reg false c48_3) (.cond (.t 22) .skip (.seq (.trim [7]) (.exit 0)))) (.blk 1 (.seq (.reg false c48_4) (.seq (.reg false c48_5) (.seq (.seq (.reg false c48_6) (.cond (.t 30) (.seq (.trim [7]) (.exit 0)) .skip)) (.seq (.reg false c48_7) (.blk 2 (.loop [3, 5, 7, 8, 9, 55, 56] c48_L0)))))))) σ := rfl
def t_comb_search_L0 (k0 : api_Region) (k1 : api_Cell) (k2 : api_Cell) (k3 : (A4 api_Cell)) (s : ((List (api_Cell × api_Cell)) × (FS api_Cell) × Int)) : Option (LR ((List (api_Cell × api_Cell)) × (FS api_Cell) × Int) ((List (api_Cell × api_Cell)) × (FS api_Cell))) := match s with
 | (s0, s1, s2) => (if (ilt s2 4) = true then (if inB s2 4 = true then (match gOpt (bnot (mhas q_api_Cell s0 (A4.get k3 s2))) (t_region_Contains k0 (A4.get k3 s2)) with
 | none => none
 | some v23 => (if (band (bnot (mhas q_api_Cell s0 (A4.get k3 s2))) (v23.getD false)) = true then (if fits 16 ((flen s1) + 1) = true then some (.nx ((mset q_api_Cell s0 (A4.get k3 s2) k2), (fsnoc s1 (A4.get k3 s2)), (iadd .i64 s2 1))) else none)
 else some (.nx (s0, s1, (iadd .i64 s2 1))))) else none)
 else some (.dn (s0, s1)))
def t_comb_search_L0_st (k0 : api_Region) (k1 : api_Cell) (k2 : api_Cell) (k3 : (A4 api_Cell)) (s : ((List (api_Cell × api_Cell)) × (FS api_Cell) × Int)) : St := match s with
 | (s0, s1, s2) => ⟨fr [(3, .ptr 3 0 0), (5, .ptr 5 0 0), (7, .map 7 0), (8, .arr 8 0 0 s1.l.length), (9, .ptr 9 0 0), (55, .agg [.int .i64 k3.a0.X, .int .i64 k3.a0.Y, .int .i64 k3.a1.X, .int .i64 k3.a1.Y, .int .i64 k3.a2.X, .int .i64 k3.a2.Y, .int .i64 k3.a3.X, .int .i64 k3.a3.Y]), (56, .int .i64 s2)], hl [(3, .box 0 [encF e_api_Row k0.Rows]), (5, .box 0 [.int .i64 k1.X, .int .i64 k1.Y]), (7, .map 0 (encM k_api_Cell v_api_Cell s0) false), (8, .arr 0 2 26 (cellsE e_api_Cell s1.l) false), (9, .box 0 [.int .i64 k2.X, .int .i64 k2.Y])]⟩
def t_comb_search_L0_out (k0 : api_Region) (k1 : api_Cell) (k2 : api_Cell) (k3 : (A4 api_Cell)) (x : ((List (api_Cell × api_Cell)) × (FS api_Cell))) : LE × St := (.exit 2, ⟨fr [(3, .ptr 3 0 0), (5, .ptr 5 0 0), (7, .map 7 0), (8, .arr 8 0 0 x.2.l.length)], hl [(3, .box 0 [encF e_api_Row k0.Rows]), (5, .box 0 [.int .i64 k1.X, .int .i64 k1.Y]), (7, .map 0 (encM k_api_Cell v_api_Cell x.1) false), (8, .arr 0 2 26 (cellsE e_api_Cell x.2.l) false)]⟩)
theorem t_comb_search_L0_ok {k0 : api_Region} {k1 : api_Cell} {k2 : api_Cell} {k3 : (A4 api_Cell)} {s : ((List (api_Cell × api_Cell)) × (FS api_Cell) × Int)} {r : ((List (api_Cell × api_Cell)) × (FS api_Cell))} (h : loopT (t_comb_search_L0 k0 k1 k2 k3) bigN s = some r) : LK env [] 0 [3, 5, 7, 8, 9, 55, 56] c48_L0 (some (t_comb_search_L0_st k0 k1 k2 k3 s)) = some (t_comb_search_L0_out k0 k1 k2 k3 r) := loop_walk (st := t_comb_search_L0_st k0 k1 k2 k3) (out := t_comb_search_L0_out k0 k1 k2 k3) (by
  clear h s r
  rintro ⟨s0, s1, s2⟩ x h
  simp only [t_comb_search_L0] at h
  by_cases c19 : (ilt s2 4) = true
  · rw [if_pos c19] at h
    by_cases h21 : inB s2 4 = true
    · rw [if_pos h21] at h
      have f20 := @idx_in 4 s2 h21 2 true [.int .i64 k3.a0.X, .int .i64 k3.a0.Y, .int .i64 k3.a1.X, .int .i64 k3.a1.Y, .int .i64 k3.a2.X, .int .i64 k3.a2.Y, .int .i64 k3.a3.X, .int .i64 k3.a3.Y]
      have f20b := @pack_A4 _ _ e_api_Cell _ k3 _ h21 [] [] (by decide) true
      simp only [A4.toL, cellsE, List.flatMap_cons, List.flatMap_nil, List.append_assoc, List.nil_append, List.cons_append, List.append_nil, List.length_cons, List.length_nil, Nat.zero_add, e_api_Cell] at f20b
      have f22 := look_encOk (ek := k_api_Cell) (ev := v_api_Cell) s0 (A4.get k3 s2) (⟨0, 0⟩ : api_Cell)
      simp only [k_api_Cell, v_api_Cell] at f22
      cases h24 : gOpt (bnot (mhas q_api_Cell s0 (A4.get k3 s2))) (t_region_Contains k0 (A4.get k3 s2)) with
      | none => (rw [h24] at h; cases h)
      | some v25 =>
        simp only [h24] at h
        have f23 := fun (q0 : (bnot (mhas q_api_Cell s0 (A4.get k3 s2))) = true) => t_region_Contains_ok (gOpt_getD false h24 q0)
        by_cases c26 : (band (bnot (mhas q_api_Cell s0 (A4.get k3 s2))) (v25.getD false)) = true
        · rw [if_pos c26] at h
          have f27 := fun (H : Heap) hg => set_enc (ek := k_api_Cell) (ev := v_api_Cell) (h := H) (g := 7) (ver := 0) (es := s0) hg (A4.get k3 s2) k2
          simp only [k_api_Cell, v_api_Cell] at f27
          by_cases h29 : fits 16 ((flen s1) + 1) = true
          · rw [if_pos h29] at h
            have f28 := fun g0 H y => @app_row1 _ _ e_api_Cell _ s1 (A4.get k3 s2) 16 h29 (by decide) g0 H 8 0 26 y
            simp only [e_api_Cell] at f28
            cases h
            show LK env [] 0 [3, 5, 7, 8, 9, 55, 56] c48_L0 (some (t_comb_search_L0_st _ _ _ _ _)) = LK env [] 0 [3, 5, 7, 8, 9, 55, 56] c48_L0 (some (t_comb_search_L0_st _ _ _ _ _))
            simp only [t_comb_search_L0_st]
            rw [LK_step]
            rcases tof (mhas q_api_Cell s0 (A4.get k3 s2)) with a30 | a30
            · simp [c19, a30] at c26
            · rcases tof (v25.getD false) with a31 | a31
              · simp (maxSteps := 4000000) [c19, a30, a31, f20, f20b, f22, esOf_map, f23, f27, f28, e_i64, e_sl_api_Row, e_sl_api_Run, e_api_Cell, e_api_Region, e_api_Row, e_api_Run, ↓c48_L0_u, ↓c48_L1_u, c48_0, c48_1, c48_2, c48_3, c48_4, c48_5, c48_6, c48_7, c48_8, c48_9, c48_10, c48_11, c48_12, c48_13, c48_14, c48_17]
              · simp [c19, a30, a31] at c26
          · rw [if_neg h29] at h; cases h
        · rw [if_neg c26] at h
          rw [Bool.not_eq_true] at c26
          cases h
          show LK env [] 0 [3, 5, 7, 8, 9, 55, 56] c48_L0 (some (t_comb_search_L0_st _ _ _ _ _)) = LK env [] 0 [3, 5, 7, 8, 9, 55, 56] c48_L0 (some (t_comb_search_L0_st _ _ _ _ _))
          simp only [t_comb_search_L0_st]
          rw [LK_step]
          rcases tof (mhas q_api_Cell s0 (A4.get k3 s2)) with a32 | a32
          · simp (maxSteps := 4000000) [c19, a32, f20, f20b, f22, esOf_map, f23, e_i64, e_sl_api_Row, e_sl_api_Run, e_api_Cell, e_api_Region, e_api_Row, e_api_Run, ↓c48_L0_u, ↓c48_L1_u, c48_0, c48_1, c48_2, c48_3, c48_4, c48_5, c48_6, c48_7, c48_8, c48_9, c48_10, c48_11, c48_12, c48_13, c48_14, c48_17]
          · rcases tof (v25.getD false) with a33 | a33
            · simp [c19, a32, a33] at c26
            · simp (maxSteps := 4000000) [c19, a32, a33, f20, f20b, f22, esOf_map, f23, e_i64, e_sl_api_Row, e_sl_api_Run, e_api_Cell, e_api_Region, e_api_Row, e_api_Run, ↓c48_L0_u, ↓c48_L1_u, c48_0, c48_1, c48_2, c48_3, c48_4, c48_5, c48_6, c48_7, c48_8, c48_9, c48_10, c48_11, c48_12, c48_13, c48_14, c48_17]
    · rw [if_neg h21] at h; cases h
  · rw [if_neg c19] at h
    rw [Bool.not_eq_true] at c19
    cases h
    show LK env [] 0 [3, 5, 7, 8, 9, 55, 56] c48_L0 (some (t_comb_search_L0_st _ _ _ _ _)) = some (t_comb_search_L0_out _ _ _ _ _)
    simp only [t_comb_search_L0_st, t_comb_search_L0_out]
    rw [LK_step]
    simp (maxSteps := 4000000) [c19, e_i64, e_sl_api_Row, e_sl_api_Run, e_api_Cell, e_api_Region, e_api_Row, e_api_Run, ↓c48_L0_u, ↓c48_L1_u, c48_0, c48_1, c48_2, c48_3, c48_4, c48_5, c48_6, c48_7, c48_8, c48_9, c48_10, c48_11, c48_12, c48_13, c48_14, c48_17]) bigN s r h
def t_comb_search_L1 (k0 : api_Region) (k1 : api_Cell) (s : ((List (api_Cell × api_Cell)) × (FS api_Cell))) : Option (LR ((List (api_Cell × api_Cell)) × (FS api_Cell)) (List (api_Cell × api_Cell))) := match s with
 | (s0, s1) => (if (igt (flen s1) 0) = true then (match fget s1 0 with
 | none => none
 | some v8 => (match fsl s1 1 (flen s1) with
 | none => none
 | some v15 => (if (band (ieq v8.X k1.X) (band (ieq v8.Y k1.Y) true)) = true then some (.dn s0)
 else (match loopT (t_comb_search_L0 k0 k1 v8 (⟨(⟨(iadd .i64 v8.X 1), v8.Y⟩ : api_Cell), (⟨(isub .i64 v8.X 1), v8.Y⟩ : api_Cell), (⟨v8.X, (iadd .i64 v8.Y 1)⟩ : api_Cell), (⟨v8.X, (isub .i64 v8.Y 1)⟩ : api_Cell)⟩ : (A4 api_Cell))) bigN (s0, v15, 0) with
 | none => none
 | some v29 => some (.nx (v29.1, v29.2))))))
 else some (.dn s0))
def t_comb_search_L1_st (k0 : api_Region) (k1 : api_Cell) (s : ((List (api_Cell × api_Cell)) × (FS api_Cell))) : St := match s with
 | (s0, s1) => ⟨fr [(3, .ptr 3 0 0), (5, .ptr 5 0 0), (7, .map 7 0), (8, .arr 8 0 0 s1.l.length)], hl [(3, .box 0 [encF e_api_Row k0.Rows]), (5, .box 0 [.int .i64 k1.X, .int .i64 k1.Y]), (7, .map 0 (encM k_api_Cell v_api_Cell s0) false), (8, .arr 0 2 26 (cellsE e_api_Cell s1.l) false)]⟩
def t_comb_search_L1_out (k0 : api_Region) (k1 : api_Cell) (x : (List (api_Cell × api_Cell))) : LE × St := (.exit 0, ⟨fr [(7, .map 7 0)], hl [(7, .map 0 (encM k_api_Cell v_api_Cell x) false)]⟩)
theorem t_comb_search_L1_ok {k0 : api_Region} {k1 : api_Cell} {s : ((List (api_Cell × api_Cell)) × (FS api_Cell))} {r : (List (api_Cell × api_Cell))} (h : loopT (t_comb_search_L1 k0 k1) bigN s = some r) : LK env [] 0 [3, 5, 7, 8] c48_L1 (some (t_comb_search_L1_st k0 k1 s)) = some (t_comb_search_L1_out k0 k1 r) := loop_walk (st := t_comb_search_L1_st k0 k1) (out := t_comb_search_L1_out k0 k1) (by
  clear h s r
  rintro ⟨s0, s1⟩ x h
  simp only [t_comb_search_L1] at h
  by_cases c4 : (igt (flen s1) 0) = true
  · rw [if_pos c4] at h
    cases h7 : fget s1 0 with
    | none => (rw [h7] at h; cases h)
    | some v8 =>
      simp only [h7] at h
      have f5 := iaddr_row (w := 2) h7
      have f6 := h7
      have f9 := (pack_row0 (e := e_api_Cell) f6 true 2 (by decide) (by decide))
      simp only [e_api_Cell] at f9
      cases h14 : fsl s1 1 (flen s1) with
      | none => (rw [h14] at h; cases h)
      | some v15 =>
        simp only [h14] at h
        have f12 := cut_part (e := e_api_Cell) h14
        try simp only [Int.reduceToNat, Nat.reduceMul, Nat.one_mul, Nat.mul_one] at f12
        have f13 := part_off h14 2
        try simp only [Int.reduceToNat, Nat.reduceMul, Nat.one_mul, Nat.mul_one] at f13
        have f10 := slice_rowlo (w := 2) h14
        try simp only [Int.reduceToNat, Nat.reduceMul, Nat.one_mul, Nat.mul_one] at f10
        have f11 := h14
        by_cases c16 : (band (ieq v8.X k1.X) (band (ieq v8.Y k1.Y) true)) = true
        · rw [if_pos c16] at h
          cases h
          show LK env [] 0 [3, 5, 7, 8] c48_L1 (some (t_comb_search_L1_st _ _ _)) = some (t_comb_search_L1_out _ _ _)
          simp only [t_comb_search_L1_st, t_comb_search_L1_out]
          rw [LK_step]
          rcases tof (ieq v8.X k1.X) with a17 | a17
          · rcases tof (ieq v8.Y k1.Y) with a18 | a18
            · simp (maxSteps := 4000000) [c4, a17, a18, f5, f9, f12, f13, f10, e_i64, e_sl_api_Row, e_sl_api_Run, e_api_Cell, e_api_Region, e_api_Row, e_api_Run, ↓c48_L0_u, ↓c48_L1_u, c48_0, c48_1, c48_2, c48_3, c48_4, c48_5, c48_6, c48_7, c48_8, c48_9, c48_10, c48_11, c48_12, c48_13, c48_14, c48_17]
            · simp [c4, a17, a18] at c16
          · simp [c4, a17] at c16
        · rw [if_neg c16] at h
          rw [Bool.not_eq_true] at c16
          cases h34 : loopT (t_comb_search_L0 k0 k1 v8 (⟨(⟨(iadd .i64 v8.X 1), v8.Y⟩ : api_Cell), (⟨(isub .i64 v8.X 1), v8.Y⟩ : api_Cell), (⟨v8.X, (iadd .i64 v8.Y 1)⟩ : api_Cell), (⟨v8.X, (isub .i64 v8.Y 1)⟩ : api_Cell)⟩ : (A4 api_Cell))) bigN (s0, v15, 0) with
          | none => (rw [h34] at h; cases h)
          | some v35 =>
            simp only [h34] at h
            have f36 := t_comb_search_L0_ok h34
            simp only [t_comb_search_L0_st, t_comb_search_L0_out, fset_len] at f36
            try simp only [fcase_nil, fcase_lst, fcase_fsnoc, fcase_fapp, fcase_fset, fcase_frep, fcase_flit, fcase_flst] at f36
            cases h
            show LK env [] 0 [3, 5, 7, 8] c48_L1 (some (t_comb_search_L1_st _ _ _)) = LK env [] 0 [3, 5, 7, 8] c48_L1 (some (t_comb_search_L1_st _ _ _))
            simp only [t_comb_search_L1_st]
            rw [LK_step]
            rcases tof (ieq v8.X k1.X) with a37 | a37
            · rcases tof (ieq v8.Y k1.Y) with a38 | a38
              · simp [c4, a37, a38] at c16
              · try simp only [c4, a37, a38] at f36
                simp (maxSteps := 4000000) [c4, a37, a38, f5, f9, f12, f13, f10, f36, e_i64, e_sl_api_Row, e_sl_api_Run, e_api_Cell, e_api_Region, e_api_Row, e_api_Run, ↓c48_L0_u, ↓c48_L1_u, c48_0, c48_1, c48_2, c48_3, c48_4, c48_5, c48_6, c48_7, c48_8, c48_9, c48_10, c48_11, c48_12, c48_13, c48_14, c48_17]
            · try simp only [c4, a37] at f36
              simp (maxSteps := 4000000) [c4, a37, f5, f9, f12, f13, f10, f36, e_i64, e_sl_api_Row, e_sl_api_Run, e_api_Cell, e_api_Region, e_api_Row, e_api_Run, ↓c48_L0_u, ↓c48_L1_u, c48_0, c48_1, c48_2, c48_3, c48_4, c48_5, c48_6, c48_7, c48_8, c48_9, c48_10, c48_11, c48_12, c48_13, c48_14, c48_17]
  · rw [if_neg c4] at h
    rw [Bool.not_eq_true] at c4
    cases h
    show LK env [] 0 [3, 5, 7, 8] c48_L1 (some (t_comb_search_L1_st _ _ _)) = some (t_comb_search_L1_out _ _ _)
    simp only [t_comb_search_L1_st, t_comb_search_L1_out]
    rw [LK_step]
    simp (maxSteps := 4000000) [c4, e_i64, e_sl_api_Row, e_sl_api_Run, e_api_Cell, e_api_Region, e_api_Row, e_api_Run, ↓c48_L0_u, ↓c48_L1_u, c48_0, c48_1, c48_2, c48_3, c48_4, c48_5, c48_6, c48_7, c48_8, c48_9, c48_10, c48_11, c48_12, c48_13, c48_14, c48_17]) bigN s r h
def t_comb_search (p0 : api_Region) (p1 : api_Cell) (p2 : api_Cell) : Option (List (api_Cell × api_Cell)) := (match loopT (t_comb_search_L1 p0 p2) bigN ((mset q_api_Cell ([] : (List (api_Cell × api_Cell))) p1 p1), (flit ([p1] : List api_Cell))) with
 | none => none
 | some v32 => some v32)
theorem t_comb_search_ok {p0 : api_Region} {p1 : api_Cell} {p2 : api_Cell} {r : (List (api_Cell × api_Cell))} (h : t_comb_search p0 p1 p2 = some r) : FC env 48 [.agg [encF e_api_Row p0.Rows], .agg [.int .i64 p1.X, .int .i64 p1.Y], .agg [.int .i64 p2.X, .int .i64 p2.Y]] none = some (encMP k_api_Cell v_api_Cell r, fun _ => none) := by
  unfold t_comb_search at h
  have f1 := mkM_enc (ek := k_api_Cell) (ev := v_api_Cell)
  have f2 := fun (H : Heap) hg => set_enc (ek := k_api_Cell) (ev := v_api_Cell) (h := H) (g := 14) (ver := 0) (es := ([] : (List (api_Cell × api_Cell)))) hg p1 p1
  simp only [k_api_Cell, v_api_Cell] at f2
  have f3 : ∀ (H : Heap) (g0 : Nat), bslV H g0 1 2 26 (some [.int .i64 p1.X, .int .i64 p1.Y]) = some (.arr g0 (newVer H g0) 0 (flit ([p1] : List api_Cell)).l.length, upd H g0 (some (.arr (newVer H g0) 2 26 (cellsE e_api_Cell (flit ([p1] : List api_Cell)).l) false))) := fun H g0 => rfl
  cases h39 : loopT (t_comb_search_L1 p0 p2) bigN ((mset q_api_Cell ([] : (List (api_Cell × api_Cell))) p1 p1), (flit ([p1] : List api_Cell))) with
  | none => (rw [h39] at h; cases h)
  | some v40 =>
    simp only [h39] at h
    have f41 := t_comb_search_L1_ok h39
    simp only [t_comb_search_L1_st, t_comb_search_L1_out, fset_len] at f41
    try simp only [fcase_nil, fcase_lst, fcase_fsnoc, fcase_fapp, fcase_fset, fcase_frep, fcase_flit, fcase_flst] at f41
    have f42 := fun (H : Heap) (g w : Nat) hg => snap_mapD (ek := k_api_Cell) (ev := v_api_Cell) (es := v40) (h := H) (g := g) (ver := w) hg
    cases h
    refine FC_pure (lf := lf48) rfl rfl rfl ?_
    simp only [lf48, lc48, c48_0, c48_1, c48_2, c48_3, c48_4, c48_5, c48_6, c48_7, c48_8, c48_9, c48_10, c48_11, c48_12, c48_13, c48_14, c48_17]
    simp (maxSteps := 4000000) [f1, f2, f3, -bslV_1, f41, e_i64, e_sl_api_Row, e_sl_api_Run, e_api_Cell, e_api_Region, e_api_Row, e_api_Run, ↓c48_L0_u, ↓c48_L1_u, f42]

/-! api.Cell] -/
theorem c49_L0_u (Γ : Env) (ps : List Nat) (σ : St) : EC Γ ps 0 c49_L0 σ = EC Γ ps 0 (.seq (.seq (.reg false c49_1) (.cond (.t 9) .skip (.seq (.trim []) (.exit 0)))) (.seq (.blk 1 (.reg true c49_2)) (.reg false c49_3))) σ := rfl
def t_slices_Reverse_api_Cell_api_Cell_L0  (s : ((FS api_Cell) × Int × Int)) : Option (LR ((FS api_Cell) × Int × Int) (FS api_Cell)) := match s with
 | (s0, s1, s2) => (if (ilt s1 s2) = true then (match fget s0 s2 with
 | none => none
 | some v5 => (match fget s0 s1 with
 | none => none
 | some v10 => (match fget (fset s0 s1 v5) s2 with
 | none => none
 | some v19 => some (.nx ((fset (fset s0 s1 v5) s2 v10), (iadd .i64 s1 1), (isub .i64 s2 1))))))
 else some (.dn s0))
def t_slices_Reverse_api_Cell_api_Cell_L0_st  (s : ((FS api_Cell) × Int × Int)) : St := match s with
 | (s0, s1, s2) => ⟨fr [(0, .arr 0 0 0 s0.l.length), (2, .int .i64 s1), (3, .int .i64 s2)], hl [(0, .arr 0 2 26 (cellsE e_api_Cell s0.l) false)]⟩
def t_slices_Reverse_api_Cell_api_Cell_L0_out  (x : (FS api_Cell)) : LE × St := (.exit 0, ⟨fr [], hl [(0, .arr 0 2 26 (cellsE e_api_Cell x.l) false)]⟩)
theorem t_slices_Reverse_api_Cell_api_Cell_L0_ok  {s : ((FS api_Cell) × Int × Int)} {r : (FS api_Cell)} (h : loopT (t_slices_Reverse_api_Cell_api_Cell_L0 ) bigN s = some r) : LK env [0] 0 [0, 2, 3] c49_L0 (some (t_slices_Reverse_api_Cell_api_Cell_L0_st  s)) = some (t_slices_Reverse_api_Cell_api_Cell_L0_out  r) := loop_walk (st := t_slices_Reverse_api_Cell_api_Cell_L0_st ) (out := t_slices_Reverse_api_Cell_api_Cell_L0_out ) (by
  clear h s r
  rintro ⟨s0, s1, s2⟩ x h
  simp only [t_slices_Reverse_api_Cell_api_Cell_L0] at h
  by_cases c1 : (ilt s1 s2) = true
  · rw [if_pos c1] at h
    cases h4 : fget s0 s2 with
    | none => (rw [h4] at h; cases h)
    | some v5 =>
      simp only [h4] at h
      have f2 := iaddr_row (w := 2) h4
      have f3 := h4
      have f6 := (pack_row0 (e := e_api_Cell) f3 true 2 (by decide) (by decide))
      simp only [e_api_Cell] at f6
      cases h9 : fget s0 s1 with
      | none => (rw [h9] at h; cases h)
      | some v10 =>
        simp only [h9] at h
        have f7 := iaddr_row (w := 2) h9
        have f8 := h9
        have f11 := (pack_row0 (e := e_api_Cell) f8 true 2 (by decide) (by decide))
        simp only [e_api_Cell] at f11
        have f14 := @paste_row0 _ _ e_api_Cell _ s0 s1 v10 v5 f8 [.int .i64 v5.X, .int .i64 v5.Y] (by simp) (by simp [e_api_Cell])
        have f15 := in_row0 (w := 2) f8 2 (by decide)
        try simp at f15
        cases h18 : fget (fset s0 s1 v5) s2 with
        | none => (rw [h18] at h; cases h)
        | some v19 =>
          simp only [h18] at h
          have f16 := iaddr_row (w := 2) h18
          try simp only [fset_len] at f16
          have f17 := h18
          have f20 := @paste_row0 _ _ e_api_Cell _ (fset s0 s1 v5) s2 v19 v10 f17 [.int .i64 v10.X, .int .i64 v10.Y] (by simp) (by simp [e_api_Cell])
          have f21 := in_row0 (w := 2) f17 2 (by decide)
          try simp at f21
          cases h
          show LK env [0] 0 [0, 2, 3] c49_L0 (some (t_slices_Reverse_api_Cell_api_Cell_L0_st  _)) = LK env [0] 0 [0, 2, 3] c49_L0 (some (t_slices_Reverse_api_Cell_api_Cell_L0_st  _))
          simp only [t_slices_Reverse_api_Cell_api_Cell_L0_st]
          rw [LK_step]
          simp (maxSteps := 4000000) [c1, f2, f6, f7, f11, f14, f15, f16, f20, f21, e_i64, e_sl_api_Row, e_sl_api_Run, e_api_Cell, e_api_Region, e_api_Row, e_api_Run, ↓c49_L0_u, c49_0, c49_1, c49_2, c49_3]
  · rw [if_neg c1] at h
    rw [Bool.not_eq_true] at c1
    cases h
    show LK env [0] 0 [0, 2, 3] c49_L0 (some (t_slices_Reverse_api_Cell_api_Cell_L0_st  _)) = some (t_slices_Reverse_api_Cell_api_Cell_L0_out  _)
    simp only [t_slices_Reverse_api_Cell_api_Cell_L0_st, t_slices_Reverse_api_Cell_api_Cell_L0_out]
    rw [LK_step]
    simp (maxSteps := 4000000) [c1, e_i64, e_sl_api_Row, e_sl_api_Run, e_api_Cell, e_api_Region, e_api_Row, e_api_Run, ↓c49_L0_u, c49_0, c49_1, c49_2, c49_3]) bigN s r h
def t_slices_Reverse_api_Cell_api_Cell (p0 : (FS api_Cell)) : Option (FS api_Cell) := (match loopT (t_slices_Reverse_api_Cell_api_Cell_L0) bigN (p0, 0, (isub .i64 (flen p0) 1)) with
 | none => none
 | some v23 => some v23)
theorem t_slices_Reverse_api_Cell_api_Cell_ok {p0 : (FS api_Cell)} {r : (FS api_Cell)} (h : t_slices_Reverse_api_Cell_api_Cell p0 = some r) : FC env 49 [.arr 0 0 0 p0.l.length] (some (hl [(0, .arr 0 2 26 (cellsE e_api_Cell p0.l) false)], 0)) = some (.tup [], hl [(0, .arr 0 2 26 (cellsE e_api_Cell r.l) false)]) := by
  unfold t_slices_Reverse_api_Cell_api_Cell at h
  cases h22 : loopT (t_slices_Reverse_api_Cell_api_Cell_L0) bigN (p0, 0, (isub .i64 (flen p0) 1)) with
  | none => (rw [h22] at h; cases h)
  | some v23 =>
    simp only [h22] at h
    have f24 := t_slices_Reverse_api_Cell_api_Cell_L0_ok h22
    simp only [t_slices_Reverse_api_Cell_api_Cell_L0_st, t_slices_Reverse_api_Cell_api_Cell_L0_out, fset_len] at f24
    try simp only [fcase_nil, fcase_lst, fcase_fsnoc, fcase_fapp, fcase_fset, fcase_frep, fcase_flit, fcase_flst] at f24
    cases h
    refine FC_byref (lf := lf49) rfl rfl rfl ?_
    simp only [lf49, lc49, c49_0, c49_1, c49_2, c49_3]
    simp (maxSteps := 4000000) [f24, e_i64, e_sl_api_Row, e_sl_api_Run, e_api_Cell, e_api_Region, e_api_Row, e_api_Run, ↓c49_L0_u]

/-! comb.Path -/
theorem c18_L0_u (Γ : Env) (ps : List Nat) (σ : St) : EC Γ ps 0 c18_L0 σ = EC Γ ps 0 (.seq (.seq (.reg false c18_9) (.cond (.t 40) .skip (.seq (.trim [11]) (.exit 0)))) (.seq (.blk 1 (.seq (.reg false c18_10) (.reg false c18_11))) (.seq (.reg false c18_12) (.reg false c18_13)))) σ := rfl
def t_comb_Path_L0 (k0 : api_Cell) (k1 : (List (api_Cell × api_Cell))) (s : ((FS api_Cell) × api_Cell)) : Option (LR ((FS api_Cell) × api_Cell) (FS api_Cell)) := match s with
 | (s0, s1) => (if (bnot (band (ieq s1.X k0.X) (band (ieq s1.Y k0.Y) true))) = true then (if fits 16 ((flen s0) + 1) = true then some (.nx ((fsnoc s0 (mget q_api_Cell k1 s1 (⟨0, 0⟩ : api_Cell))), (mget q_api_Cell k1 s1 (⟨0, 0⟩ : api_Cell)))) else none)
 else some (.dn s0))
def t_comb_Path_L0_st (k0 : api_Cell) (k1 : (List (api_Cell × api_Cell))) (s : ((FS api_Cell) × api_Cell)) : St := match s with
 | (s0, s1) => ⟨fr [(4, .ptr 4 0 0), (8, encMP k_api_Cell v_api_Cell k1), (11, .arr 11 0 0 s0.l.length), (12, .ptr 12 0 0)], hl [(4, .box 0 [.int .i64 k0.X, .int .i64 k0.Y]), (11, .arr 0 2 26 (cellsE e_api_Cell s0.l) false), (12, .box 0 [.int .i64 s1.X, .int .i64 s1.Y])]⟩
def t_comb_Path_L0_out (k0 : api_Cell) (k1 : (List (api_Cell × api_Cell))) (x : (FS api_Cell)) : LE × St := (.exit 0, ⟨fr [(11, .arr 11 0 0 x.l.length)], hl [(11, .arr 0 2 26 (cellsE e_api_Cell x.l) false)]⟩)
theorem t_comb_Path_L0_ok {k0 : api_Cell} {k1 : (List (api_Cell × api_Cell))} {s : ((FS api_Cell) × api_Cell)} {r : (FS api_Cell)} (h : loopT (t_comb_Path_L0 k0 k1) bigN s = some r) : LK env [] 0 [4, 8, 11, 12] c18_L0 (some (t_comb_Path_L0_st k0 k1 s)) = some (t_comb_Path_L0_out k0 k1 r) := loop_walk (st := t_comb_Path_L0_st k0 k1) (out := t_comb_Path_L0_out k0 k1) (by
  clear h s r
  rintro ⟨s0, s1⟩ x h
  simp only [t_comb_Path_L0] at h
  by_cases c19 : (bnot (band (ieq s1.X k0.X) (band (ieq s1.Y k0.Y) true))) = true
  · rw [if_pos c19] at h
    have f20 := look_enc (ek := k_api_Cell) (ev := v_api_Cell) k1 s1 (⟨0, 0⟩ : api_Cell)
    simp only [k_api_Cell, v_api_Cell] at f20
    by_cases h22 : fits 16 ((flen s0) + 1) = true
    · rw [if_pos h22] at h
      have f21 := fun g0 H y => @app_row1 _ _ e_api_Cell _ s0 (mget q_api_Cell k1 s1 (⟨0, 0⟩ : api_Cell)) 16 h22 (by decide) g0 H 11 0 26 y
      simp only [e_api_Cell] at f21
      cases h
      show LK env [] 0 [4, 8, 11, 12] c18_L0 (some (t_comb_Path_L0_st _ _ _)) = LK env [] 0 [4, 8, 11, 12] c18_L0 (some (t_comb_Path_L0_st _ _ _))
      simp only [t_comb_Path_L0_st]
      rw [LK_step]
      rcases tof (ieq s1.X k0.X) with a23 | a23
      · rcases tof (ieq s1.Y k0.Y) with a24 | a24
        · simp [a23, a24] at c19
        · simp (maxSteps := 4000000) [a23, a24, f20, es_MP, f21, e_i64, e_sl_api_Row, e_sl_api_Run, e_api_Cell, e_api_Region, e_api_Row, e_api_Run, ↓c18_L0_u, c18_0, c18_1, c18_2, c18_3, c18_4, c18_5, c18_6, c18_7, c18_8, c18_9, c18_10, c18_11, c18_12, c18_13, c18_15, c18_16]
      · simp (maxSteps := 4000000) [a23, f20, es_MP, f21, e_i64, e_sl_api_Row, e_sl_api_Run, e_api_Cell, e_api_Region, e_api_Row, e_api_Run, ↓c18_L0_u, c18_0, c18_1, c18_2, c18_3, c18_4, c18_5, c18_6, c18_7, c18_8, c18_9, c18_10, c18_11, c18_12, c18_13, c18_15, c18_16]
    · rw [if_neg h22] at h; cases h
  · rw [if_neg c19] at h
    rw [Bool.not_eq_true] at c19
    cases h
    show LK env [] 0 [4, 8, 11, 12] c18_L0 (some (t_comb_Path_L0_st _ _ _)) = some (t_comb_Path_L0_out _ _ _)
    simp only [t_comb_Path_L0_st, t_comb_Path_L0_out]
    rw [LK_step]
    rcases tof (ieq s1.X k0.X) with a25 | a25
    · rcases tof (ieq s1.Y k0.Y) with a26 | a26
      · simp (maxSteps := 4000000) [a25, a26, e_i64, e_sl_api_Row, e_sl_api_Run, e_api_Cell, e_api_Region, e_api_Row, e_api_Run, ↓c18_L0_u, c18_0, c18_1, c18_2, c18_3, c18_4, c18_5, c18_6, c18_7, c18_8, c18_9, c18_10, c18_11, c18_12, c18_13, c18_15, c18_16]
      · simp [a25, a26] at c19
    · simp [a25] at c19) bigN s r h
def t_comb_Path (p0 : api_Region) (p1 : api_Cell) (p2 : api_Cell) : Option ((FS api_Cell) × Bool) := (match t_region_Contains p0 p1 with
 | none => none
 | some v3 => (match gOpt (bnot (bnot v3)) (t_region_Contains p0 p2) with
 | none => none
 | some v6 => (if (bor (bnot v3) (bnot (v6.getD false))) = true then some ((FS.nil : (FS api_Cell)), false)
 else (match t_comb_search p0 p1 p2 with
 | none => none
 | some v10 => (if (bnot (mhas q_api_Cell v10 p2)) = true then some ((FS.nil : (FS api_Cell)), false)
 else (match loopT (t_comb_Path_L0 p1 v10) bigN ((flit ([p2] : List api_Cell)), p2) with
 | none => none
 | some v19 => (match t_slices_Reverse_api_Cell_api_Cell v19 with
 | none => none
 | some v22 => (if ieq (flen v22) (flen v19) = true then some ((flst v22), true) else none))))))))
theorem t_comb_Path_ok {p0 : api_Region} {p1 : api_Cell} {p2 : api_Cell} {r : ((FS api_Cell) × Bool)} (h : t_comb_Path p0 p1 p2 = some r) : FC env 18 [.agg [encF e_api_Row p0.Rows], .agg [.int .i64 p1.X, .int .i64 p1.Y], .agg [.int .i64 p2.X, .int .i64 p2.Y]] none = some (.tup [encF e_api_Cell r.1, .bool r.2], fun _ => none) := by
  unfold t_comb_Path at h
  cases h2 : t_region_Contains p0 p1 with
  | none => (rw [h2] at h; cases h)
  | some v3 =>
    simp only [h2] at h
    have f1 := t_region_Contains_ok h2
    cases h5 : gOpt (bnot (bnot v3)) (t_region_Contains p0 p2) with
    | none => (rw [h5] at h; cases h)
    | some v6 =>
      simp only [h5] at h
      have f4 := fun (q0 : (bnot v3) = false) => t_region_Contains_ok (gOpt_getD false h5 (bnot_mk q0))
      by_cases c7 : (bor (bnot v3) (bnot (v6.getD false))) = true
      · rw [if_pos c7] at h
        cases h
        refine FC_pure (lf := lf18) rfl rfl rfl ?_
        simp only [lf18, lc18, c18_0, c18_1, c18_2, c18_3, c18_4, c18_5, c18_6, c18_7, c18_8, c18_9, c18_10, c18_11, c18_12, c18_13, c18_15, c18_16]
        rcases tof v3 with a8 | a8
        · rcases tof (v6.getD false) with a9 | a9
          · simp [a8, a9] at c7
          · simp (maxSteps := 4000000) [a8, a9, f1, f4, e_i64, e_sl_api_Row, e_sl_api_Run, e_api_Cell, e_api_Region, e_api_Row, e_api_Run, ↓c18_L0_u, snap_tupE, tupS, snap7_int, snap7_bool, snap7_str, snap7_nils, snap7_agg]
        · simp (maxSteps := 4000000) [a8, f1, f4, e_i64, e_sl_api_Row, e_sl_api_Run, e_api_Cell, e_api_Region, e_api_Row, e_api_Run, ↓c18_L0_u, snap_tupE, tupS, snap7_int, snap7_bool, snap7_str, snap7_nils, snap7_agg]
      · rw [if_neg c7] at h
        rw [Bool.not_eq_true] at c7
        cases h11 : t_comb_search p0 p1 p2 with
        | none => (rw [h11] at h; cases h)
        | some v12 =>
          simp only [h11] at h
          have f10 := t_comb_search_ok h11
          have f13 := look_encOk (ek := k_api_Cell) (ev := v_api_Cell) v12 p2 (⟨0, 0⟩ : api_Cell)
          simp only [k_api_Cell, v_api_Cell] at f13
          by_cases c14 : (bnot (mhas q_api_Cell v12 p2)) = true
          · rw [if_pos c14] at h
            cases h
            refine FC_pure (lf := lf18) rfl rfl rfl ?_
            simp only [lf18, lc18, c18_0, c18_1, c18_2, c18_3, c18_4, c18_5, c18_6, c18_7, c18_8, c18_9, c18_10, c18_11, c18_12, c18_13, c18_15, c18_16]
            rcases tof v3 with a15 | a15
            · rcases tof (v6.getD false) with a16 | a16
              · rcases tof (mhas q_api_Cell v12 p2) with a17 | a17
                · simp [a15, a16, a17] at c14
                · simp (maxSteps := 4000000) [a15, a16, a17, f1, f4, f10, f13, es_MP, e_i64, e_sl_api_Row, e_sl_api_Run, e_api_Cell, e_api_Region, e_api_Row, e_api_Run, ↓c18_L0_u, snap_tupE, tupS, snap7_int, snap7_bool, snap7_str, snap7_nils, snap7_agg]
              · simp [a15, a16] at c7
            · simp [a15] at c7
          · rw [if_neg c14] at h
            rw [Bool.not_eq_true] at c14
            have f18 : ∀ (H : Heap) (g0 : Nat), bslV H g0 1 2 26 (some [.int .i64 p2.X, .int .i64 p2.Y]) = some (.arr g0 (newVer H g0) 0 (flit ([p2] : List api_Cell)).l.length, upd H g0 (some (.arr (newVer H g0) 2 26 (cellsE e_api_Cell (flit ([p2] : List api_Cell)).l) false))) := fun H g0 => rfl
            cases h27 : loopT (t_comb_Path_L0 p1 v12) bigN ((flit ([p2] : List api_Cell)), p2) with
            | none => (rw [h27] at h; cases h)
            | some v28 =>
              simp only [h27] at h
              have f29 := t_comb_Path_L0_ok h27
              simp only [t_comb_Path_L0_st, t_comb_Path_L0_out, fset_len] at f29
              try simp only [fcase_nil, fcase_lst, fcase_fsnoc, fcase_fapp, fcase_fset, fcase_frep, fcase_flit, fcase_flst] at f29
              cases h30 : t_slices_Reverse_api_Cell_api_Cell v28 with
              | none => (rw [h30] at h; cases h)
              | some v31 =>
                simp only [h30] at h
                have f32 := t_slices_Reverse_api_Cell_api_Cell_ok h30
                try simp only [fset_len, encF_nil, fcase_nil, fcase_lst, fcase_fsnoc, fcase_fapp, fcase_fset, fcase_frep, fcase_flit, fcase_flst] at f32
                by_cases h33 : ieq (flen v31) (flen v28) = true
                · rw [if_pos h33] at h
                  have h34 : v28.l.length = v31.l.length := len_of h33
                  try simp only [h34] at f1 f4 f10 f13 f18 f29 f32
                  try simp only [fcase_nil, fcase_lst, fcase_fsnoc, fcase_fapp, fcase_fset, fcase_frep, fcase_flit, fcase_flst] at f32
                  cases h
                  refine FC_pure (lf := lf18) rfl rfl rfl ?_
                  simp only [lf18, lc18, c18_0, c18_1, c18_2, c18_3, c18_4, c18_5, c18_6, c18_7, c18_8, c18_9, c18_10, c18_11, c18_12, c18_13, c18_15, c18_16]
                  rcases tof v3 with a35 | a35
                  · rcases tof (v6.getD false) with a36 | a36
                    · rcases tof (mhas q_api_Cell v12 p2) with a37 | a37
                      · try simp only [a35, a36, a37] at f29
                        simp (maxSteps := 4000000) [a35, a36, a37, f1, f4, f10, f13, es_MP, f18, -bslV_1, f29, h34, f32, e_i64, e_sl_api_Row, e_sl_api_Run, e_api_Cell, e_api_Region, e_api_Row, e_api_Run, ↓c18_L0_u, snap_row7 (e := e_api_Cell) (el := 26) (fz := false), snap_tupE, tupS, snap7_int, snap7_bool, snap7_str, snap7_nils, snap7_agg]
                      · simp [a35, a36, a37] at c14
                    · simp [a35, a36] at c7
                  · simp [a35] at c7
                · rw [if_neg h33] at h; cases h

/-! additiveref18.Row -/
theorem c56_L0_u (Γ : Env) (ps : List Nat) (σ : St) : EC Γ ps 0 c56_L0 σ = EC Γ ps 0 (.seq (.seq (.reg false c56_2) (.cond (.t 10) .skip (.seq (.trim []) (.exit 0)))) (.seq (.blk 1 (.seq (.reg false c56_3) (.cond (.t 20) (.seq (.reg false c56_4) (.seq (.trim [4]) .ret)) .skip))) (.reg false c56_5))) σ := rfl
def t_additiveref18_Row_L0 (k0 : Int) (k1 : api_Region) (s : Int) : Option (LR Int ((FS api_Run) ⊕ Unit)) := match s with
 | s0 => (if (ilt s0 (flen k1.Rows)) = true then (match fget k1.Rows s0 with
 | none => none
 | some v4 => (if (ieq v4.Y k0) = true then some (.dn (.inl v4.Runs))
 else some (.nx (iadd .i64 s0 1))))
 else some (.dn (.inr ())))
def t_additiveref18_Row_L0_st (k0 : Int) (k1 : api_Region) (s : Int) : St := match s with
 | s0 => ⟨fr [(1, .int .i64 k0), (2, .ptr 2 0 0), (5, .int .i64 s0)], hl [(2, .box 0 [encF e_api_Row k1.Rows])]⟩
def t_additiveref18_Row_L0_out (k0 : Int) (k1 : api_Region) (x : ((FS api_Run) ⊕ Unit)) : LE × St := match x with
 | .inl x => (.ret, ⟨fr [(4, encF e_api_Run x)], hl []⟩)
 | .inr x => (.exit 0, ⟨fr [], hl []⟩)
theorem t_additiveref18_Row_L0_ok {k0 : Int} {k1 : api_Region} {s : Int} {r : ((FS api_Run) ⊕ Unit)} (h : loopT (t_additiveref18_Row_L0 k0 k1) bigN s = some r) : LK env [] 0 [1, 2, 5] c56_L0 (some (t_additiveref18_Row_L0_st k0 k1 s)) = some (t_additiveref18_Row_L0_out k0 k1 r) := loop_walk (st := t_additiveref18_Row_L0_st k0 k1) (out := t_additiveref18_Row_L0_out k0 k1) (by
  clear h s r
  rintro s0 x h
  simp only [t_additiveref18_Row_L0] at h
  by_cases c1 : (ilt s0 (flen k1.Rows)) = true
  · rw [if_pos c1] at h
    cases h3 : fget k1.Rows s0 with
    | none => (rw [h3] at h; cases h)
    | some v4 =>
      simp only [h3] at h
      have f2 := iaddr_F (e := e_api_Row) h3
      by_cases c5 : (ieq v4.Y k0) = true
      · rw [if_pos c5] at h
        cases h
        show LK env [] 0 [1, 2, 5] c56_L0 (some (t_additiveref18_Row_L0_st _ _ _)) = some (t_additiveref18_Row_L0_out _ _ _)
        simp only [t_additiveref18_Row_L0_st, t_additiveref18_Row_L0_out]
        rw [LK_step]
        simp (maxSteps := 4000000) [c1, c5, f2, e_i64, e_sl_api_Row, e_sl_api_Run, e_api_Cell, e_api_Region, e_api_Row, e_api_Run, ↓c56_L0_u, c56_0, c56_1, c56_2, c56_3, c56_4, c56_5, c56_7]
      · rw [if_neg c5] at h
        rw [Bool.not_eq_true] at c5
        cases h
        show LK env [] 0 [1, 2, 5] c56_L0 (some (t_additiveref18_Row_L0_st _ _ _)) = LK env [] 0 [1, 2, 5] c56_L0 (some (t_additiveref18_Row_L0_st _ _ _))
        simp only [t_additiveref18_Row_L0_st]
        rw [LK_step]
        simp (maxSteps := 4000000) [c1, c5, f2, e_i64, e_sl_api_Row, e_sl_api_Run, e_api_Cell, e_api_Region, e_api_Row, e_api_Run, ↓c56_L0_u, c56_0, c56_1, c56_2, c56_3, c56_4, c56_5, c56_7]
  · rw [if_neg c1] at h
    rw [Bool.not_eq_true] at c1
    cases h
    show LK env [] 0 [1, 2, 5] c56_L0 (some (t_additiveref18_Row_L0_st _ _ _)) = some (t_additiveref18_Row_L0_out _ _ _)
    simp only [t_additiveref18_Row_L0_st, t_additiveref18_Row_L0_out]
    rw [LK_step]
    simp (maxSteps := 4000000) [c1, e_i64, e_sl_api_Row, e_sl_api_Run, e_api_Cell, e_api_Region, e_api_Row, e_api_Run, ↓c56_L0_u, c56_0, c56_1, c56_2, c56_3, c56_4, c56_5, c56_7]) bigN s r h
def t_additiveref18_Row (p0 : api_Region) (p1 : Int) : Option (FS api_Run) := (match loopT (t_additiveref18_Row_L0 p1 p0) bigN 0 with
 | none => none
 | some v8 => (match v8 with
 | .inl v8x => some v8x
 | .inr v8x => some (FS.nil : (FS api_Run))))
theorem t_additiveref18_Row_ok {p0 : api_Region} {p1 : Int} {r : (FS api_Run)} (h : t_additiveref18_Row p0 p1 = some r) : FC env 56 [.agg [encF e_api_Row p0.Rows], .int .i64 p1] none = some (encF e_api_Run r, fun _ => none) := by
  unfold t_additiveref18_Row at h
  cases h7 : loopT (t_additiveref18_Row_L0 p1 p0) bigN 0 with
  | none => (rw [h7] at h; cases h)
  | some v8 =>
    simp only [h7] at h
    have f9 := t_additiveref18_Row_L0_ok h7
    cases v8 with
    | inl v8x =>
      try simp only at h
      simp only [t_additiveref18_Row_L0_st, t_additiveref18_Row_L0_out, fset_len] at f9
      try simp only [fcase_nil, fcase_lst, fcase_fsnoc, fcase_fapp, fcase_fset, fcase_frep, fcase_flit, fcase_flst] at f9
      cases h
      refine FC_pure (lf := lf56) rfl rfl rfl ?_
      simp only [lf56, lc56, c56_0, c56_1, c56_2, c56_3, c56_4, c56_5, c56_7]
      simp (maxSteps := 4000000) [f9, e_i64, e_sl_api_Row, e_sl_api_Run, e_api_Cell, e_api_Region, e_api_Row, e_api_Run, ↓c56_L0_u]
    | inr v8x =>
      try simp only at h
      simp only [t_additiveref18_Row_L0_st, t_additiveref18_Row_L0_out, fset_len] at f9
      try simp only [fcase_nil, fcase_lst, fcase_fsnoc, fcase_fapp, fcase_fset, fcase_frep, fcase_flit, fcase_flst] at f9
      cases h
      refine FC_pure (lf := lf56) rfl rfl rfl ?_
      simp only [lf56, lc56, c56_0, c56_1, c56_2, c56_3, c56_4, c56_5, c56_7]
      simp (maxSteps := 4000000) [f9, e_i64, e_sl_api_Row, e_sl_api_Run, e_api_Cell, e_api_Region, e_api_Row, e_api_Run, ↓c56_L0_u]

/-! additiveref18.inside -/
theorem c55_L0_u (Γ : Env) (ps : List Nat) (σ : St) : EC Γ ps 0 c55_L0 σ = EC Γ ps 0 (.seq (.seq (.reg false c55_2) (.cond (.t 9) .skip (.seq (.trim []) (.exit 0)))) (.seq (.blk 1 (.seq (.reg false c55_3) (.cond (.t 27) (.seq (.reg false c55_4) (.seq (.trim [4]) .ret)) .skip))) (.reg false c55_5))) σ := rfl
def t_additiveref18_inside_L0 (k0 : (FS api_Run)) (k1 : Int) (s : Int) : Option (LR Int (Bool ⊕ Unit)) := match s with
 | s0 => (if (ilt s0 (flen k0)) = true then (match fget k0 s0 with
 | none => none
 | some v4 => (if (band (ile v4.From k1) (ilt k1 v4.To)) = true then some (.dn (.inl true))
 else some (.nx (iadd .i64 s0 1))))
 else some (.dn (.inr ())))
def t_additiveref18_inside_L0_st (k0 : (FS api_Run)) (k1 : Int) (s : Int) : St := match s with
 | s0 => ⟨fr [(0, encF e_api_Run k0), (1, .int .i64 k1), (5, .int .i64 s0)], hl []⟩
def t_additiveref18_inside_L0_out (k0 : (FS api_Run)) (k1 : Int) (x : (Bool ⊕ Unit)) : LE × St := match x with
 | .inl x => (.ret, ⟨fr [(4, .bool x)], hl []⟩)
 | .inr x => (.exit 0, ⟨fr [], hl []⟩)
theorem t_additiveref18_inside_L0_ok {k0 : (FS api_Run)} {k1 : Int} {s : Int} {r : (Bool ⊕ Unit)} (h : loopT (t_additiveref18_inside_L0 k0 k1) bigN s = some r) : LK env [] 0 [0, 1, 5] c55_L0 (some (t_additiveref18_inside_L0_st k0 k1 s)) = some (t_additiveref18_inside_L0_out k0 k1 r) := loop_walk (st := t_additiveref18_inside_L0_st k0 k1) (out := t_additiveref18_inside_L0_out k0 k1) (by
  clear h s r
  rintro s0 x h
  simp only [t_additiveref18_inside_L0] at h
  by_cases c1 : (ilt s0 (flen k0)) = true
  · rw [if_pos c1] at h
    cases h3 : fget k0 s0 with
    | none => (rw [h3] at h; cases h)
    | some v4 =>
      simp only [h3] at h
      have f2 := iaddr_F (e := e_api_Run) h3
      by_cases c6 : (band (ile v4.From k1) (ilt k1 v4.To)) = true
      · rw [if_pos c6] at h
        cases h
        show LK env [] 0 [0, 1, 5] c55_L0 (some (t_additiveref18_inside_L0_st _ _ _)) = some (t_additiveref18_inside_L0_out _ _ _)
        simp only [t_additiveref18_inside_L0_st, t_additiveref18_inside_L0_out]
        rw [LK_step]
        rcases tof (ile v4.From k1) with a7 | a7
        · rcases tof (ilt k1 v4.To) with a8 | a8
          · simp (maxSteps := 4000000) [c1, a7, a8, f2, e_i64, e_sl_api_Row, e_sl_api_Run, e_api_Cell, e_api_Region, e_api_Row, e_api_Run, ↓c55_L0_u, c55_0, c55_1, c55_2, c55_3, c55_4, c55_5, c55_7]
          · simp [c1, a7, a8] at c6
        · simp [c1, a7] at c6
      · rw [if_neg c6] at h
        rw [Bool.not_eq_true] at c6
        cases h
        show LK env [] 0 [0, 1, 5] c55_L0 (some (t_additiveref18_inside_L0_st _ _ _)) = LK env [] 0 [0, 1, 5] c55_L0 (some (t_additiveref18_inside_L0_st _ _ _))
        simp only [t_additiveref18_inside_L0_st]
        rw [LK_step]
        rcases tof (ile v4.From k1) with a9 | a9
        · rcases tof (ilt k1 v4.To) with a10 | a10
          · simp [c1, a9, a10] at c6
          · simp (maxSteps := 4000000) [c1, a9, a10, f2, e_i64, e_sl_api_Row, e_sl_api_Run, e_api_Cell, e_api_Region, e_api_Row, e_api_Run, ↓c55_L0_u, c55_0, c55_1, c55_2, c55_3, c55_4, c55_5, c55_7]
        · simp (maxSteps := 4000000) [c1, a9, f2, e_i64, e_sl_api_Row, e_sl_api_Run, e_api_Cell, e_api_Region, e_api_Row, e_api_Run, ↓c55_L0_u, c55_0, c55_1, c55_2, c55_3, c55_4, c55_5, c55_7]
  · rw [if_neg c1] at h
    rw [Bool.not_eq_true] at c1
    cases h
    show LK env [] 0 [0, 1, 5] c55_L0 (some (t_additiveref18_inside_L0_st _ _ _)) = some (t_additiveref18_inside_L0_out _ _ _)
    simp only [t_additiveref18_inside_L0_st, t_additiveref18_inside_L0_out]
    rw [LK_step]
    simp (maxSteps := 4000000) [c1, e_i64, e_sl_api_Row, e_sl_api_Run, e_api_Cell, e_api_Region, e_api_Row, e_api_Run, ↓c55_L0_u, c55_0, c55_1, c55_2, c55_3, c55_4, c55_5, c55_7]) bigN s r h
def t_additiveref18_inside (p0 : (FS api_Run)) (p1 : Int) : Option Bool := (match loopT (t_additiveref18_inside_L0 p0 p1) bigN 0 with
 | none => none
 | some v8 => (match v8 with
 | .inl v8x => some v8x
 | .inr v8x => some false))
theorem t_additiveref18_inside_ok {p0 : (FS api_Run)} {p1 : Int} {r : Bool} (h : t_additiveref18_inside p0 p1 = some r) : FC env 55 [encF e_api_Run p0, .int .i64 p1] none = some (.bool r, fun _ => none) := by
  unfold t_additiveref18_inside at h
  cases h11 : loopT (t_additiveref18_inside_L0 p0 p1) bigN 0 with
  | none => (rw [h11] at h; cases h)
  | some v12 =>
    simp only [h11] at h
    have f13 := t_additiveref18_inside_L0_ok h11
    cases v12 with
    | inl v12x =>
      try simp only at h
      simp only [t_additiveref18_inside_L0_st, t_additiveref18_inside_L0_out, fset_len] at f13
      try simp only [fcase_nil, fcase_lst, fcase_fsnoc, fcase_fapp, fcase_fset, fcase_frep, fcase_flit, fcase_flst] at f13
      cases h
      refine FC_pure (lf := lf55) rfl rfl rfl ?_
      simp only [lf55, lc55, c55_0, c55_1, c55_2, c55_3, c55_4, c55_5, c55_7]
      simp (maxSteps := 4000000) [f13, e_i64, e_sl_api_Row, e_sl_api_Run, e_api_Cell, e_api_Region, e_api_Row, e_api_Run, ↓c55_L0_u]
    | inr v12x =>
      try simp only at h
      simp only [t_additiveref18_inside_L0_st, t_additiveref18_inside_L0_out, fset_len] at f13
      try simp only [fcase_nil, fcase_lst, fcase_fsnoc, fcase_fapp, fcase_fset, fcase_frep, fcase_flit, fcase_flst] at f13
      cases h
      refine FC_pure (lf := lf55) rfl rfl rfl ?_
      simp only [lf55, lc55, c55_0, c55_1, c55_2, c55_3, c55_4, c55_5, c55_7]
      simp (maxSteps := 4000000) [f13, e_i64, e_sl_api_Row, e_sl_api_Run, e_api_Cell, e_api_Region, e_api_Row, e_api_Run, ↓c55_L0_u]

/-! additiveref18.Contains -/
def t_additiveref18_Contains (p0 : api_Region) (p1 : api_Cell) : Option Bool := (match t_additiveref18_Valid p0 with
 | none => none
 | some v3 => (match gOpt v3 (t_additiveref18_Row p0 p1.Y) with
 | none => none
 | some v6 => (match gOpt v3 (t_additiveref18_inside (v6.getD (FS.nil : (FS api_Run))) p1.X) with
 | none => none
 | some v9 => some (band v3 (v9.getD false)))))
theorem t_additiveref18_Contains_ok {p0 : api_Region} {p1 : api_Cell} {r : Bool} (h : t_additiveref18_Contains p0 p1 = some r) : FC env 27 [.agg [encF e_api_Row p0.Rows], .agg [.int .i64 p1.X, .int .i64 p1.Y]] none = some (.bool r, fun _ => none) := by
  unfold t_additiveref18_Contains at h
  cases h2 : t_additiveref18_Valid p0 with
  | none => (rw [h2] at h; cases h)
  | some v3 =>
    simp only [h2] at h
    have f1 := t_additiveref18_Valid_ok h2
    cases h5 : gOpt v3 (t_additiveref18_Row p0 p1.Y) with
    | none => (rw [h5] at h; cases h)
    | some v6 =>
      simp only [h5] at h
      have f4 := fun (q0 : v3 = true) => t_additiveref18_Row_ok (gOpt_getD (FS.nil : (FS api_Run)) h5 q0)
      cases h8 : gOpt v3 (t_additiveref18_inside (v6.getD (FS.nil : (FS api_Run))) p1.X) with
      | none => (rw [h8] at h; cases h)
      | some v9 =>
        simp only [h8] at h
        have f7 := fun (q0 : v3 = true) => t_additiveref18_inside_ok (gOpt_getD false h8 q0)
        cases h
        refine FC_pure (lf := lf27) rfl rfl rfl ?_
        simp only [lf27, lc27, c27_0, c27_1]
        rcases tof v3 with a10 | a10
        · simp (maxSteps := 4000000) [a10, f1, f4, f7, e_i64, e_sl_api_Row, e_sl_api_Run, e_api_Cell, e_api_Region, e_api_Row, e_api_Run]
        · simp (maxSteps := 4000000) [a10, f1, f4, f7, e_i64, e_sl_api_Row, e_sl_api_Run, e_api_Cell, e_api_Region, e_api_Row, e_api_Run]

/-! additiveref34.found -/
theorem c87_L0_u (Γ : Env) (ps : List Nat) (σ : St) : EC Γ ps 0 c87_L0 σ = EC Γ ps 0 (.seq (.seq (.reg false c87_2) (.cond (.t 9) .skip (.seq (.trim []) (.exit 0)))) (.seq (.blk 1 (.seq (.reg true c87_3) (.cond (.t 18) (.seq (.reg false c87_4) (.seq (.trim [4]) .ret)) .skip))) (.reg false c87_5))) σ := rfl
def t_additiveref34_found_L0 (k0 : (FS additiveref34_seen)) (k1 : api_Cell) (s : Int) : Option (LR Int (Bool ⊕ Unit)) := match s with
 | s0 => (if (ilt s0 (flen k0)) = true then (match fget k0 s0 with
 | none => none
 | some v4 => (if (band (ieq v4.cell.X k1.X) (band (ieq v4.cell.Y k1.Y) true)) = true then some (.dn (.inl true))
 else some (.nx (iadd .i64 s0 1))))
 else some (.dn (.inr ())))
def t_additiveref34_found_L0_st (k0 : (FS additiveref34_seen)) (k1 : api_Cell) (s : Int) : St := match s with
 | s0 => ⟨fr [(0, encF e_additiveref34_seen k0), (3, .ptr 3 0 0), (5, .int .i64 s0)], hl [(3, .box 0 [.int .i64 k1.X, .int .i64 k1.Y])]⟩
def t_additiveref34_found_L0_out (k0 : (FS additiveref34_seen)) (k1 : api_Cell) (x : (Bool ⊕ Unit)) : LE × St := match x with
 | .inl x => (.ret, ⟨fr [(4, .bool x)], hl []⟩)
 | .inr x => (.exit 0, ⟨fr [], hl []⟩)
theorem t_additiveref34_found_L0_ok {k0 : (FS additiveref34_seen)} {k1 : api_Cell} {s : Int} {r : (Bool ⊕ Unit)} (h : loopT (t_additiveref34_found_L0 k0 k1) bigN s = some r) : LK env [] 0 [0, 3, 5] c87_L0 (some (t_additiveref34_found_L0_st k0 k1 s)) = some (t_additiveref34_found_L0_out k0 k1 r) := loop_walk (st := t_additiveref34_found_L0_st k0 k1) (out := t_additiveref34_found_L0_out k0 k1) (by
  clear h s r
  rintro s0 x h
  simp only [t_additiveref34_found_L0] at h
  by_cases c1 : (ilt s0 (flen k0)) = true
  · rw [if_pos c1] at h
    cases h3 : fget k0 s0 with
    | none => (rw [h3] at h; cases h)
    | some v4 =>
      simp only [h3] at h
      have f2 := iaddr_F (e := e_additiveref34_seen) h3
      by_cases c5 : (band (ieq v4.cell.X k1.X) (band (ieq v4.cell.Y k1.Y) true)) = true
      · rw [if_pos c5] at h
        cases h
        show LK env [] 0 [0, 3, 5] c87_L0 (some (t_additiveref34_found_L0_st _ _ _)) = some (t_additiveref34_found_L0_out _ _ _)
        simp only [t_additiveref34_found_L0_st, t_additiveref34_found_L0_out]
        rw [LK_step]
        rcases tof (ieq v4.cell.X k1.X) with a6 | a6
        · rcases tof (ieq v4.cell.Y k1.Y) with a7 | a7
          · simp (maxSteps := 4000000) [c1, a6, a7, f2, e_i64, e_sl_api_Row, e_sl_api_Run, e_additiveref34_seen, e_api_Cell, e_api_Region, e_api_Row, e_api_Run, ↓c87_L0_u, c87_0, c87_1, c87_2, c87_3, c87_4, c87_5, c87_7]
          · simp [c1, a6, a7] at c5
        · simp [c1, a6] at c5
      · rw [if_neg c5] at h
        rw [Bool.not_eq_true] at c5
        cases h
        show LK env [] 0 [0, 3, 5] c87_L0 (some (t_additiveref34_found_L0_st _ _ _)) = LK env [] 0 [0, 3, 5] c87_L0 (some (t_additiveref34_found_L0_st _ _ _))
        simp only [t_additiveref34_found_L0_st]
        rw [LK_step]
        rcases tof (ieq v4.cell.X k1.X) with a8 | a8
        · rcases tof (ieq v4.cell.Y k1.Y) with a9 | a9
          · simp [c1, a8, a9] at c5
          · simp (maxSteps := 4000000) [c1, a8, a9, f2, e_i64, e_sl_api_Row, e_sl_api_Run, e_additiveref34_seen, e_api_Cell, e_api_Region, e_api_Row, e_api_Run, ↓c87_L0_u, c87_0, c87_1, c87_2, c87_3, c87_4, c87_5, c87_7]
        · simp (maxSteps := 4000000) [c1, a8, f2, e_i64, e_sl_api_Row, e_sl_api_Run, e_additiveref34_seen, e_api_Cell, e_api_Region, e_api_Row, e_api_Run, ↓c87_L0_u, c87_0, c87_1, c87_2, c87_3, c87_4, c87_5, c87_7]
  · rw [if_neg c1] at h
    rw [Bool.not_eq_true] at c1
    cases h
    show LK env [] 0 [0, 3, 5] c87_L0 (some (t_additiveref34_found_L0_st _ _ _)) = some (t_additiveref34_found_L0_out _ _ _)
    simp only [t_additiveref34_found_L0_st, t_additiveref34_found_L0_out]
    rw [LK_step]
    simp (maxSteps := 4000000) [c1, e_i64, e_sl_api_Row, e_sl_api_Run, e_additiveref34_seen, e_api_Cell, e_api_Region, e_api_Row, e_api_Run, ↓c87_L0_u, c87_0, c87_1, c87_2, c87_3, c87_4, c87_5, c87_7]) bigN s r h
def t_additiveref34_found (p0 : (FS additiveref34_seen)) (p1 : api_Cell) : Option Bool := (match loopT (t_additiveref34_found_L0 p0 p1) bigN 0 with
 | none => none
 | some v7 => (match v7 with
 | .inl v7x => some v7x
 | .inr v7x => some false))
theorem t_additiveref34_found_ok {p0 : (FS additiveref34_seen)} {p1 : api_Cell} {r : Bool} (h : t_additiveref34_found p0 p1 = some r) : FC env 87 [encF e_additiveref34_seen p0, .agg [.int .i64 p1.X, .int .i64 p1.Y]] none = some (.bool r, fun _ => none) := by
  unfold t_additiveref34_found at h
  cases h10 : loopT (t_additiveref34_found_L0 p0 p1) bigN 0 with
  | none => (rw [h10] at h; cases h)
  | some v11 =>
    simp only [h10] at h
    have f12 := t_additiveref34_found_L0_ok h10
    cases v11 with
    | inl v11x =>
      try simp only at h
      simp only [t_additiveref34_found_L0_st, t_additiveref34_found_L0_out, fset_len] at f12
      try simp only [fcase_nil, fcase_lst, fcase_fsnoc, fcase_fapp, fcase_fset, fcase_frep, fcase_flit, fcase_flst] at f12
      cases h
      refine FC_pure (lf := lf87) rfl rfl rfl ?_
      simp only [lf87, lc87, c87_0, c87_1, c87_2, c87_3, c87_4, c87_5, c87_7]
      simp (maxSteps := 4000000) [f12, e_i64, e_sl_api_Row, e_sl_api_Run, e_additiveref34_seen, e_api_Cell, e_api_Region, e_api_Row, e_api_Run, ↓c87_L0_u]
    | inr v11x =>
      try simp only at h
      simp only [t_additiveref34_found_L0_st, t_additiveref34_found_L0_out, fset_len] at f12
      try simp only [fcase_nil, fcase_lst, fcase_fsnoc, fcase_fapp, fcase_fset, fcase_frep, fcase_flit, fcase_flst] at f12
      cases h
      refine FC_pure (lf := lf87) rfl rfl rfl ?_
      simp only [lf87, lc87, c87_0, c87_1, c87_2, c87_3, c87_4, c87_5, c87_7]
      simp (maxSteps := 4000000) [f12, e_i64, e_sl_api_Row, e_sl_api_Run, e_additiveref34_seen, e_api_Cell, e_api_Region, e_api_Row, e_api_Run, ↓c87_L0_u]

/-! additiveref34.search -/
theorem c50_L0_u (Γ : Env) (ps : List Nat) (σ : St) : EC Γ ps 0 c50_L0 σ = EC Γ ps 0 (.seq (.seq (.reg true c50_7) (.cond (.t 74) .skip (.seq (.trim [3, 5, 7, 8]) (.exit 2)))) (.seq (.blk 3 (.seq (.reg true c50_8) (.cond (.t 91) (.reg false c50_9) .skip))) (.reg false c50_10))) σ := rfl
theorem c50_L1_u (Γ : Env) (ps : List Nat) (σ : St) : EC Γ ps 0 c50_L1 σ = EC Γ ps 0 (.seq (.seq (.reg true c50_3) (.cond (.t 29) .skip (.seq (.trim [7]) (.exit 0)))) (.seq (.blk 1 (.seq (.reg false c50_4) (.seq (.reg false c50_5) (.seq (.reg false c50_6) (.blk 2 (.loop [3, 5, 7, 8, 10, 11] c50_L0)))))) (.reg false c50_12))) σ := rfl
def t_additiveref34_search_L0 (k0 : api_Region) (k1 : api_Cell) (k2 : Int) (k3 : (FS api_Cell)) (s : ((FS additiveref34_seen) × Int)) : Option (LR ((FS additiveref34_seen) × Int) (FS additiveref34_seen)) := match s with
 | (s0, s1) => (match gOpt (ilt s1 4) (fget s0 (isub .i64 (flen s0) 1)) with
 | none => none
 | some v17 => (if (band (ilt s1 4) (bnot (band (ieq ((((v17.getD (⟨(⟨0, 0⟩ : api_Cell), 0⟩ : additiveref34_seen))).cell).X) k1.X) (band (ieq ((((v17.getD (⟨(⟨0, 0⟩ : api_Cell), 0⟩ : additiveref34_seen))).cell).Y) k1.Y) true)))) = true then (match fget k3 s1 with
 | none => none
 | some v23 => (match t_additiveref18_Contains k0 v23 with
 | none => none
 | some v27 => (match gOpt v27 (t_additiveref34_found (flst s0) v23) with
 | none => none
 | some v33 => (if (band v27 (bnot (v33.getD false))) = true then (if fits 24 ((flen s0) + 1) = true then some (.nx ((fsnoc s0 (⟨v23, k2⟩ : additiveref34_seen)), (iadd .i64 s1 1))) else none)
 else some (.nx (s0, (iadd .i64 s1 1)))))))
 else some (.dn s0)))
def t_additiveref34_search_L0_st (k0 : api_Region) (k1 : api_Cell) (k2 : Int) (k3 : (FS api_Cell)) (s : ((FS additiveref34_seen) × Int)) : St := match s with
 | (s0, s1) => ⟨fr [(3, .ptr 3 0 0), (5, .ptr 5 0 0), (7, .arr 7 0 0 s0.l.length), (8, .int .i64 k2), (10, .arr 10 0 0 k3.l.length), (11, .int .i64 s1)], hl [(3, .box 0 [encF e_api_Row k0.Rows]), (5, .box 0 [.int .i64 k1.X, .int .i64 k1.Y]), (7, .arr 0 3 75 (cellsE e_additiveref34_seen s0.l) false), (10, .arr 0 2 26 (cellsE e_api_Cell k3.l) false)]⟩
def t_additiveref34_search_L0_out (k0 : api_Region) (k1 : api_Cell) (k2 : Int) (k3 : (FS api_Cell)) (x : (FS additiveref34_seen)) : LE × St := (.exit 2, ⟨fr [(3, .ptr 3 0 0), (5, .ptr 5 0 0), (7, .arr 7 0 0 x.l.length), (8, .int .i64 k2)], hl [(3, .box 0 [encF e_api_Row k0.Rows]), (5, .box 0 [.int .i64 k1.X, .int .i64 k1.Y]), (7, .arr 0 3 75 (cellsE e_additiveref34_seen x.l) false)]⟩)
theorem t_additiveref34_search_L0_ok {k0 : api_Region} {k1 : api_Cell} {k2 : Int} {k3 : (FS api_Cell)} {s : ((FS additiveref34_seen) × Int)} {r : (FS additiveref34_seen)} (h : loopT (t_additiveref34_search_L0 k0 k1 k2 k3) bigN s = some r) : LK env [] 0 [3, 5, 7, 8, 10, 11] c50_L0 (some (t_additiveref34_search_L0_st k0 k1 k2 k3 s)) = some (t_additiveref34_search_L0_out k0 k1 k2 k3 r) := loop_walk (st := t_additiveref34_search_L0_st k0 k1 k2 k3) (out := t_additiveref34_search_L0_out k0 k1 k2 k3) (by
  clear h s r
  rintro ⟨s0, s1⟩ x h
  simp only [t_additiveref34_search_L0] at h
  cases h16 : gOpt (ilt s1 4) (fget s0 (isub .i64 (flen s0) 1)) with
  | none => (rw [h16] at h; cases h)
  | some v17 =>
    simp only [h16] at h
    have f14 := fun (q0 : (ilt s1 4) = true) => iaddr_row (w := 3) (gOpt_getD (⟨(⟨0, 0⟩ : api_Cell), 0⟩ : additiveref34_seen) h16 q0)
    have f15 := fun (q0 : (ilt s1 4) = true) => (gOpt_getD (⟨(⟨0, 0⟩ : api_Cell), 0⟩ : additiveref34_seen) h16 q0)
    have f18 := fun (q0 : (ilt s1 4) = true) => (pack_row0 (e := e_additiveref34_seen) (f15 q0) true 2 (by decide) (by decide))
    simp only [e_additiveref34_seen] at f18
    by_cases c19 : (band (ilt s1 4) (bnot (band (ieq ((((v17.getD (⟨(⟨0, 0⟩ : api_Cell), 0⟩ : additiveref34_seen))).cell).X) k1.X) (band (ieq ((((v17.getD (⟨(⟨0, 0⟩ : api_Cell), 0⟩ : additiveref34_seen))).cell).Y) k1.Y) true)))) = true
    · rw [if_pos c19] at h
      cases h22 : fget k3 s1 with
      | none => (rw [h22] at h; cases h)
      | some v23 =>
        simp only [h22] at h
        have f20 := iaddr_row (w := 2) h22
        have f21 := h22
        have f24 := (pack_row0 (e := e_api_Cell) f21 true 2 (by decide) (by decide))
        simp only [e_api_Cell] at f24
        cases h26 : t_additiveref18_Contains k0 v23 with
        | none => (rw [h26] at h; cases h)
        | some v27 =>
          simp only [h26] at h
          have f25 := t_additiveref18_Contains_ok h26
          have f30 := (pack_row0 (e := e_api_Cell) f21 true 2 (by decide) (by decide))
          simp only [e_api_Cell] at f30
          cases h32 : gOpt v27 (t_additiveref34_found (flst s0) v23) with
          | none => (rw [h32] at h; cases h)
          | some v33 =>
            simp only [h32] at h
            have f31 := fun (q0 : v27 = true) => t_additiveref34_found_ok (gOpt_getD false h32 q0)
            try simp only [encF_nil] at f31
            by_cases c34 : (band v27 (bnot (v33.getD false))) = true
            · rw [if_pos c34] at h
              have f37 := (pack_row0 (e := e_api_Cell) f21 true 2 (by decide) (by decide))
              simp only [e_api_Cell] at f37
              by_cases h39 : fits 24 ((flen s0) + 1) = true
              · rw [if_pos h39] at h
                have f38 := fun g0 H y => @app_row1 _ _ e_additiveref34_seen _ s0 (⟨v23, k2⟩ : additiveref34_seen) 24 h39 (by decide) g0 H 7 0 75 y
                simp only [e_additiveref34_seen] at f38
                cases h
                show LK env [] 0 [3, 5, 7, 8, 10, 11] c50_L0 (some (t_additiveref34_search_L0_st _ _ _ _ _)) = LK env [] 0 [3, 5, 7, 8, 10, 11] c50_L0 (some (t_additiveref34_search_L0_st _ _ _ _ _))
                simp only [t_additiveref34_search_L0_st]
                rw [LK_step]
                rcases tof (ilt s1 4) with a40 | a40
                · rcases tof (ieq ((((v17.getD (⟨(⟨0, 0⟩ : api_Cell), 0⟩ : additiveref34_seen))).cell).X) k1.X) with a41 | a41
                  · rcases tof (ieq ((((v17.getD (⟨(⟨0, 0⟩ : api_Cell), 0⟩ : additiveref34_seen))).cell).Y) k1.Y) with a42 | a42
                    · simp [a40, a41, a42] at c19
                    · rcases tof v27 with a43 | a43
                      · rcases tof (v33.getD false) with a44 | a44
                        · simp [a40, a41, a42, a43, a44] at c34
                        · simp (maxSteps := 4000000) [a40, a41, a42, a43, a44, f14, f18, f20, f24, f25, f30, snap_rowD (e := e_additiveref34_seen) (el := 75) (fz := false), f31, f37, f38, e_i64, e_sl_api_Row, e_sl_api_Run, e_additiveref34_seen, e_api_Cell, e_api_Region, e_api_Row, e_api_Run, ↓c50_L0_u, ↓c50_L1_u, c50_0, c50_1, c50_2, c50_3, c50_4, c50_5, c50_6, c50_7, c50_8, c50_9, c50_10, c50_12, c50_14]
                      · simp [a40, a41, a42, a43] at c34
                  · rcases tof v27 with a45 | a45
                    · rcases tof (v33.getD false) with a46 | a46
                      · simp [a40, a41, a45, a46] at c34
                      · simp (maxSteps := 4000000) [a40, a41, a45, a46, f14, f18, f20, f24, f25, f30, snap_rowD (e := e_additiveref34_seen) (el := 75) (fz := false), f31, f37, f38, e_i64, e_sl_api_Row, e_sl_api_Run, e_additiveref34_seen, e_api_Cell, e_api_Region, e_api_Row, e_api_Run, ↓c50_L0_u, ↓c50_L1_u, c50_0, c50_1, c50_2, c50_3, c50_4, c50_5, c50_6, c50_7, c50_8, c50_9, c50_10, c50_12, c50_14]
                    · simp [a40, a41, a45] at c34
                · simp [a40] at c19
              · rw [if_neg h39] at h; cases h
            · rw [if_neg c34] at h
              rw [Bool.not_eq_true] at c34
              cases h
              show LK env [] 0 [3, 5, 7, 8, 10, 11] c50_L0 (some (t_additiveref34_search_L0_st _ _ _ _ _)) = LK env [] 0 [3, 5, 7, 8, 10, 11] c50_L0 (some (t_additiveref34_search_L0_st _ _ _ _ _))
              simp only [t_additiveref34_search_L0_st]
              rw [LK_step]
              rcases tof (ilt s1 4) with a47 | a47
              · rcases tof (ieq ((((v17.getD (⟨(⟨0, 0⟩ : api_Cell), 0⟩ : additiveref34_seen))).cell).X) k1.X) with a48 | a48
                · rcases tof (ieq ((((v17.getD (⟨(⟨0, 0⟩ : api_Cell), 0⟩ : additiveref34_seen))).cell).Y) k1.Y) with a49 | a49
                  · simp [a47, a48, a49] at c19
                  · rcases tof v27 with a50 | a50
                    · rcases tof (v33.getD false) with a51 | a51
                      · simp (maxSteps := 4000000) [a47, a48, a49, a50, a51, f14, f18, f20, f24, f25, f30, snap_rowD (e := e_additiveref34_seen) (el := 75) (fz := false), f31, e_i64, e_sl_api_Row, e_sl_api_Run, e_additiveref34_seen, e_api_Cell, e_api_Region, e_api_Row, e_api_Run, ↓c50_L0_u, ↓c50_L1_u, c50_0, c50_1, c50_2, c50_3, c50_4, c50_5, c50_6, c50_7, c50_8, c50_9, c50_10, c50_12, c50_14]
                      · simp [a47, a48, a49, a50, a51] at c34
                    · simp (maxSteps := 4000000) [a47, a48, a49, a50, f14, f18, f20, f24, f25, f30, snap_rowD (e := e_additiveref34_seen) (el := 75) (fz := false), f31, e_i64, e_sl_api_Row, e_sl_api_Run, e_additiveref34_seen, e_api_Cell, e_api_Region, e_api_Row, e_api_Run, ↓c50_L0_u, ↓c50_L1_u, c50_0, c50_1, c50_2, c50_3, c50_4, c50_5, c50_6, c50_7, c50_8, c50_9, c50_10, c50_12, c50_14]
                · rcases tof v27 with a52 | a52
                  · rcases tof (v33.getD false) with a53 | a53
                    · simp (maxSteps := 4000000) [a47, a48, a52, a53, f14, f18, f20, f24, f25, f30, snap_rowD (e := e_additiveref34_seen) (el := 75) (fz := false), f31, e_i64, e_sl_api_Row, e_sl_api_Run, e_additiveref34_seen, e_api_Cell, e_api_Region, e_api_Row, e_api_Run, ↓c50_L0_u, ↓c50_L1_u, c50_0, c50_1, c50_2, c50_3, c50_4, c50_5, c50_6, c50_7, c50_8, c50_9, c50_10, c50_12, c50_14]
                    · simp [a47, a48, a52, a53] at c34
                  · simp (maxSteps := 4000000) [a47, a48, a52, f14, f18, f20, f24, f25, f30, snap_rowD (e := e_additiveref34_seen) (el := 75) (fz := false), f31, e_i64, e_sl_api_Row, e_sl_api_Run, e_additiveref34_seen, e_api_Cell, e_api_Region, e_api_Row, e_api_Run, ↓c50_L0_u, ↓c50_L1_u, c50_0, c50_1, c50_2, c50_3, c50_4, c50_5, c50_6, c50_7, c50_8, c50_9, c50_10, c50_12, c50_14]
              · simp [a47] at c19
    · rw [if_neg c19] at h
      rw [Bool.not_eq_true] at c19
      cases h
      show LK env [] 0 [3, 5, 7, 8, 10, 11] c50_L0 (some (t_additiveref34_search_L0_st _ _ _ _ _)) = some (t_additiveref34_search_L0_out _ _ _ _ _)
      simp only [t_additiveref34_search_L0_st, t_additiveref34_search_L0_out]
      rw [LK_step]
      rcases tof (ilt s1 4) with a54 | a54
      · rcases tof (ieq ((((v17.getD (⟨(⟨0, 0⟩ : api_Cell), 0⟩ : additiveref34_seen))).cell).X) k1.X) with a55 | a55
        · rcases tof (ieq ((((v17.getD (⟨(⟨0, 0⟩ : api_Cell), 0⟩ : additiveref34_seen))).cell).Y) k1.Y) with a56 | a56
          · simp (maxSteps := 4000000) [a54, a55, a56, f14, f18, e_i64, e_sl_api_Row, e_sl_api_Run, e_additiveref34_seen, e_api_Cell, e_api_Region, e_api_Row, e_api_Run, ↓c50_L0_u, ↓c50_L1_u, c50_0, c50_1, c50_2, c50_3, c50_4, c50_5, c50_6, c50_7, c50_8, c50_9, c50_10, c50_12, c50_14]
          · simp [a54, a55, a56] at c19
        · simp [a54, a55] at c19
      · simp (maxSteps := 4000000) [a54, f14, f18, e_i64, e_sl_api_Row, e_sl_api_Run, e_additiveref34_seen, e_api_Cell, e_api_Region, e_api_Row, e_api_Run, ↓c50_L0_u, ↓c50_L1_u, c50_0, c50_1, c50_2, c50_3, c50_4, c50_5, c50_6, c50_7, c50_8, c50_9, c50_10, c50_12, c50_14]) bigN s r h
def t_additiveref34_search_L1 (k0 : api_Region) (k1 : api_Cell) (s : ((FS additiveref34_seen) × Int)) : Option (LR ((FS additiveref34_seen) × Int) (FS additiveref34_seen)) := match s with
 | (s0, s1) => (match gOpt (ilt s1 (flen s0)) (fget s0 (isub .i64 (flen s0) 1)) with
 | none => none
 | some v5 => (if (band (ilt s1 (flen s0)) (bnot (band (ieq ((((v5.getD (⟨(⟨0, 0⟩ : api_Cell), 0⟩ : additiveref34_seen))).cell).X) k1.X) (band (ieq ((((v5.getD (⟨(⟨0, 0⟩ : api_Cell), 0⟩ : additiveref34_seen))).cell).Y) k1.Y) true)))) = true then (match fget s0 s1 with
 | none => none
 | some v11 => (match loopT (t_additiveref34_search_L0 k0 k1 s1 (flit ([(⟨(iadd .i64 v11.cell.X 1), v11.cell.Y⟩ : api_Cell), (⟨(isub .i64 v11.cell.X 1), v11.cell.Y⟩ : api_Cell), (⟨v11.cell.X, (iadd .i64 v11.cell.Y 1)⟩ : api_Cell), (⟨v11.cell.X, (isub .i64 v11.cell.Y 1)⟩ : api_Cell)] : List api_Cell))) bigN (s0, 0) with
 | none => none
 | some v41 => some (.nx (v41, (iadd .i64 s1 1)))))
 else some (.dn s0)))
def t_additiveref34_search_L1_st (k0 : api_Region) (k1 : api_Cell) (s : ((FS additiveref34_seen) × Int)) : St := match s with
 | (s0, s1) => ⟨fr [(3, .ptr 3 0 0), (5, .ptr 5 0 0), (7, .arr 7 0 0 s0.l.length), (8, .int .i64 s1)], hl [(3, .box 0 [encF e_api_Row k0.Rows]), (5, .box 0 [.int .i64 k1.X, .int .i64 k1.Y]), (7, .arr 0 3 75 (cellsE e_additiveref34_seen s0.l) false)]⟩
def t_additiveref34_search_L1_out (k0 : api_Region) (k1 : api_Cell) (x : (FS additiveref34_seen)) : LE × St := (.exit 0, ⟨fr [(7, .arr 7 0 0 x.l.length)], hl [(7, .arr 0 3 75 (cellsE e_additiveref34_seen x.l) false)]⟩)
theorem t_additiveref34_search_L1_ok {k0 : api_Region} {k1 : api_Cell} {s : ((FS additiveref34_seen) × Int)} {r : (FS additiveref34_seen)} (h : loopT (t_additiveref34_search_L1 k0 k1) bigN s = some r) : LK env [] 0 [3, 5, 7, 8] c50_L1 (some (t_additiveref34_search_L1_st k0 k1 s)) = some (t_additiveref34_search_L1_out k0 k1 r) := loop_walk (st := t_additiveref34_search_L1_st k0 k1) (out := t_additiveref34_search_L1_out k0 k1) (by
  clear h s r
  rintro ⟨s0, s1⟩ x h
  simp only [t_additiveref34_search_L1] at h
  cases h4 : gOpt (ilt s1 (flen s0)) (fget s0 (isub .i64 (flen s0) 1)) with
  | none => (rw [h4] at h; cases h)
  | some v5 =>
    simp only [h4] at h
    have f2 := fun (q0 : (ilt s1 (flen s0)) = true) => iaddr_row (w := 3) (gOpt_getD (⟨(⟨0, 0⟩ : api_Cell), 0⟩ : additiveref34_seen) h4 q0)
    have f3 := fun (q0 : (ilt s1 (flen s0)) = true) => (gOpt_getD (⟨(⟨0, 0⟩ : api_Cell), 0⟩ : additiveref34_seen) h4 q0)
    have f6 := fun (q0 : (ilt s1 (flen s0)) = true) => (pack_row0 (e := e_additiveref34_seen) (f3 q0) true 2 (by decide) (by decide))
    simp only [e_additiveref34_seen] at f6
    by_cases c7 : (band (ilt s1 (flen s0)) (bnot (band (ieq ((((v5.getD (⟨(⟨0, 0⟩ : api_Cell), 0⟩ : additiveref34_seen))).cell).X) k1.X) (band (ieq ((((v5.getD (⟨(⟨0, 0⟩ : api_Cell), 0⟩ : additiveref34_seen))).cell).Y) k1.Y) true)))) = true
    · rw [if_pos c7] at h
      cases h10 : fget s0 s1 with
      | none => (rw [h10] at h; cases h)
      | some v11 =>
        simp only [h10] at h
        have f8 := iaddr_row (w := 3) h10
        have f9 := h10
        have f12 := (pack_row0 (e := e_additiveref34_seen) f9 true 2 (by decide) (by decide))
        simp only [e_additiveref34_seen] at f12
        have f13 : ∀ (H : Heap) (g0 : Nat), bslV H g0 4 2 26 (some [.int .i64 (iadd .i64 v11.cell.X 1), .int .i64 v11.cell.Y, .int .i64 (isub .i64 v11.cell.X 1), .int .i64 v11.cell.Y, .int .i64 v11.cell.X, .int .i64 (iadd .i64 v11.cell.Y 1), .int .i64 v11.cell.X, .int .i64 (isub .i64 v11.cell.Y 1)]) = some (.arr g0 (newVer H g0) 0 (flit ([(⟨(iadd .i64 v11.cell.X 1), v11.cell.Y⟩ : api_Cell), (⟨(isub .i64 v11.cell.X 1), v11.cell.Y⟩ : api_Cell), (⟨v11.cell.X, (iadd .i64 v11.cell.Y 1)⟩ : api_Cell), (⟨v11.cell.X, (isub .i64 v11.cell.Y 1)⟩ : api_Cell)] : List api_Cell)).l.length, upd H g0 (some (.arr (newVer H g0) 2 26 (cellsE e_api_Cell (flit ([(⟨(iadd .i64 v11.cell.X 1), v11.cell.Y⟩ : api_Cell), (⟨(isub .i64 v11.cell.X 1), v11.cell.Y⟩ : api_Cell), (⟨v11.cell.X, (iadd .i64 v11.cell.Y 1)⟩ : api_Cell), (⟨v11.cell.X, (isub .i64 v11.cell.Y 1)⟩ : api_Cell)] : List api_Cell)).l) false))) := fun H g0 => rfl
        cases h57 : loopT (t_additiveref34_search_L0 k0 k1 s1 (flit ([(⟨(iadd .i64 v11.cell.X 1), v11.cell.Y⟩ : api_Cell), (⟨(isub .i64 v11.cell.X 1), v11.cell.Y⟩ : api_Cell), (⟨v11.cell.X, (iadd .i64 v11.cell.Y 1)⟩ : api_Cell), (⟨v11.cell.X, (isub .i64 v11.cell.Y 1)⟩ : api_Cell)] : List api_Cell))) bigN (s0, 0) with
        | none => (rw [h57] at h; cases h)
        | some v58 =>
          simp only [h57] at h
          have f59 := t_additiveref34_search_L0_ok h57
          simp only [t_additiveref34_search_L0_st, t_additiveref34_search_L0_out, fset_len] at f59
          try simp only [fcase_nil, fcase_lst, fcase_fsnoc, fcase_fapp, fcase_fset, fcase_frep, fcase_flit, fcase_flst] at f59
          cases h
          show LK env [] 0 [3, 5, 7, 8] c50_L1 (some (t_additiveref34_search_L1_st _ _ _)) = LK env [] 0 [3, 5, 7, 8] c50_L1 (some (t_additiveref34_search_L1_st _ _ _))
          simp only [t_additiveref34_search_L1_st]
          rw [LK_step]
          rcases tof (ilt s1 (flen s0)) with a60 | a60
          · rcases tof (ieq ((((v5.getD (⟨(⟨0, 0⟩ : api_Cell), 0⟩ : additiveref34_seen))).cell).X) k1.X) with a61 | a61
            · rcases tof (ieq ((((v5.getD (⟨(⟨0, 0⟩ : api_Cell), 0⟩ : additiveref34_seen))).cell).Y) k1.Y) with a62 | a62
              · simp [a60, a61, a62] at c7
              · try simp only [a60, a61, a62] at f59
                simp (maxSteps := 4000000) [a60, a61, a62, f2, f6, f8, f12, f13, f59, e_i64, e_sl_api_Row, e_sl_api_Run, e_additiveref34_seen, e_api_Cell, e_api_Region, e_api_Row, e_api_Run, ↓c50_L0_u, ↓c50_L1_u, c50_0, c50_1, c50_2, c50_3, c50_4, c50_5, c50_6, c50_7, c50_8, c50_9, c50_10, c50_12, c50_14]
            · try simp only [a60, a61] at f59
              simp (maxSteps := 4000000) [a60, a61, f2, f6, f8, f12, f13, f59, e_i64, e_sl_api_Row, e_sl_api_Run, e_additiveref34_seen, e_api_Cell, e_api_Region, e_api_Row, e_api_Run, ↓c50_L0_u, ↓c50_L1_u, c50_0, c50_1, c50_2, c50_3, c50_4, c50_5, c50_6, c50_7, c50_8, c50_9, c50_10, c50_12, c50_14]
          · simp [a60] at c7
    · rw [if_neg c7] at h
      rw [Bool.not_eq_true] at c7
      cases h
      show LK env [] 0 [3, 5, 7, 8] c50_L1 (some (t_additiveref34_search_L1_st _ _ _)) = some (t_additiveref34_search_L1_out _ _ _)
      simp only [t_additiveref34_search_L1_st, t_additiveref34_search_L1_out]
      rw [LK_step]
      rcases tof (ilt s1 (flen s0)) with a63 | a63
      · rcases tof (ieq ((((v5.getD (⟨(⟨0, 0⟩ : api_Cell), 0⟩ : additiveref34_seen))).cell).X) k1.X) with a64 | a64
        · rcases tof (ieq ((((v5.getD (⟨(⟨0, 0⟩ : api_Cell), 0⟩ : additiveref34_seen))).cell).Y) k1.Y) with a65 | a65
          · simp (maxSteps := 4000000) [a63, a64, a65, f2, f6, e_i64, e_sl_api_Row, e_sl_api_Run, e_additiveref34_seen, e_api_Cell, e_api_Region, e_api_Row, e_api_Run, ↓c50_L0_u, ↓c50_L1_u, c50_0, c50_1, c50_2, c50_3, c50_4, c50_5, c50_6, c50_7, c50_8, c50_9, c50_10, c50_12, c50_14]
          · simp [a63, a64, a65] at c7
        · simp [a63, a64] at c7
      · simp (maxSteps := 4000000) [a63, f2, f6, e_i64, e_sl_api_Row, e_sl_api_Run, e_additiveref34_seen, e_api_Cell, e_api_Region, e_api_Row, e_api_Run, ↓c50_L0_u, ↓c50_L1_u, c50_0, c50_1, c50_2, c50_3, c50_4, c50_5, c50_6, c50_7, c50_8, c50_9, c50_10, c50_12, c50_14]) bigN s r h
def t_additiveref34_search (p0 : api_Region) (p1 : api_Cell) (p2 : api_Cell) : Option (FS additiveref34_seen) := (match loopT (t_additiveref34_search_L1 p0 p2) bigN ((flit ([(⟨p1, (-1)⟩ : additiveref34_seen)] : List additiveref34_seen)), 0) with
 | none => none
 | some v44 => some (flst v44))
theorem t_additiveref34_search_ok {p0 : api_Region} {p1 : api_Cell} {p2 : api_Cell} {r : (FS additiveref34_seen)} (h : t_additiveref34_search p0 p1 p2 = some r) : FC env 50 [.agg [encF e_api_Row p0.Rows], .agg [.int .i64 p1.X, .int .i64 p1.Y], .agg [.int .i64 p2.X, .int .i64 p2.Y]] none = some (encF e_additiveref34_seen r, fun _ => none) := by
  unfold t_additiveref34_search at h
  have f1 : ∀ (H : Heap) (g0 : Nat), bslV H g0 1 3 75 (some [.int .i64 p1.X, .int .i64 p1.Y, .int .i64 (-1)]) = some (.arr g0 (newVer H g0) 0 (flit ([(⟨p1, (-1)⟩ : additiveref34_seen)] : List additiveref34_seen)).l.length, upd H g0 (some (.arr (newVer H g0) 3 75 (cellsE e_additiveref34_seen (flit ([(⟨p1, (-1)⟩ : additiveref34_seen)] : List additiveref34_seen)).l) false))) := fun H g0 => rfl
  cases h66 : loopT (t_additiveref34_search_L1 p0 p2) bigN ((flit ([(⟨p1, (-1)⟩ : additiveref34_seen)] : List additiveref34_seen)), 0) with
  | none => (rw [h66] at h; cases h)
  | some v67 =>
    simp only [h66] at h
    have f68 := t_additiveref34_search_L1_ok h66
    simp only [t_additiveref34_search_L1_st, t_additiveref34_search_L1_out, fset_len] at f68
    try simp only [fcase_nil, fcase_lst, fcase_fsnoc, fcase_fapp, fcase_fset, fcase_frep, fcase_flit, fcase_flst] at f68
    cases h
    refine FC_pure (lf := lf50) rfl rfl rfl ?_
    simp only [lf50, lc50, c50_0, c50_1, c50_2, c50_3, c50_4, c50_5, c50_6, c50_7, c50_8, c50_9, c50_10, c50_12, c50_14]
    simp (maxSteps := 4000000) [f1, -bslV_1, f68, e_i64, e_sl_api_Row, e_sl_api_Run, e_additiveref34_seen, e_api_Cell, e_api_Region, e_api_Row, e_api_Run, ↓c50_L0_u, ↓c50_L1_u, snap_rowD (e := e_additiveref34_seen) (el := 75) (fz := false)]

/-! additiveref34.Path -/
theorem c19_L0_u (Γ : Env) (ps : List Nat) (σ : St) : EC Γ ps 0 c19_L0 σ = EC Γ ps 0 (.seq (.seq (.reg false c19_8) (.cond (.t 40) .skip (.seq (.trim [9]) (.exit 0)))) (.seq (.blk 1 (.reg false c19_9)) (.reg false c19_10))) σ := rfl
theorem c19_L1_u (Γ : Env) (ps : List Nat) (σ : St) : EC Γ ps 0 c19_L1 σ = EC Γ ps 0 (.seq (.seq (.reg false c19_14) (.cond (.t 58) .skip (.seq (.trim [11]) (.exit 2)))) (.seq (.blk 3 (.reg false c19_15)) (.reg false c19_16))) σ := rfl
def t_additiveref34_Path_L0 (k0 : (FS additiveref34_seen)) (s : ((FS api_Cell) × Int)) : Option (LR ((FS api_Cell) × Int) (FS api_Cell)) := match s with
 | (s0, s1) => (if (ige s1 0) = true then (match fget k0 s1 with
 | none => none
 | some v18 => (if fits 16 ((flen s0) + 1) = true then some (.nx ((fsnoc s0 v18.cell), v18.before)) else none))
 else some (.dn s0))
def t_additiveref34_Path_L0_st (k0 : (FS additiveref34_seen)) (s : ((FS api_Cell) × Int)) : St := match s with
 | (s0, s1) => (fcase s0 (⟨fr [(8, encF e_additiveref34_seen k0), (9, .nils), (10, .int .i64 s1)], hl []⟩)
  (fun l0 => ⟨fr [(8, encF e_additiveref34_seen k0), (9, .arr 9 0 0 l0.l.length), (10, .int .i64 s1)], hl [(9, .arr 0 2 26 (cellsE e_api_Cell l0.l) false)]⟩))
def t_additiveref34_Path_L0_out (k0 : (FS additiveref34_seen)) (x : (FS api_Cell)) : LE × St := (fcase x (.exit 0, ⟨fr [(9, .nils)], hl []⟩)
  (fun l0 => (.exit 0, ⟨fr [(9, .arr 9 0 0 l0.l.length)], hl [(9, .arr 0 2 26 (cellsE e_api_Cell l0.l) false)]⟩)))
theorem t_additiveref34_Path_L0_ok {k0 : (FS additiveref34_seen)} {s : ((FS api_Cell) × Int)} {r : (FS api_Cell)} (h : loopT (t_additiveref34_Path_L0 k0) bigN s = some r) : LK env [] 0 [8, 9, 10] c19_L0 (some (t_additiveref34_Path_L0_st k0 s)) = some (t_additiveref34_Path_L0_out k0 r) := loop_walk (st := t_additiveref34_Path_L0_st k0) (out := t_additiveref34_Path_L0_out k0) (by
  clear h s r
  rintro ⟨s0, s1⟩ x h
  simp only [t_additiveref34_Path_L0] at h
  cases e22 : s0 with
  | nil =>
    try simp only [e22, flen_nil] at h
    by_cases c23 : (ige s1 0) = true
    · rw [if_pos c23] at h
      cases h25 : fget k0 s1 with
      | none => (rw [h25] at h; cases h)
      | some v26 =>
        simp only [h25] at h
        have f24 := iaddr_F (e := e_additiveref34_seen) h25
        by_cases h28 : fits 16 (0 + 1) = true
        · rw [if_pos h28] at h
          have f27 := fun H g0 hg y => @app_nil _ _ e_api_Cell _ v26.cell 16 h28 (by decide) H g0 26 y hg
          simp only [e_api_Cell] at f27
          cases h
          show LK env [] 0 [8, 9, 10] c19_L0 (some (t_additiveref34_Path_L0_st _ _)) = LK env [] 0 [8, 9, 10] c19_L0 (some (t_additiveref34_Path_L0_st _ _))
          simp only [t_additiveref34_Path_L0_st, e22]
          rw [LK_step]
          simp (maxSteps := 4000000) [c23, e22, f24, f27, e_i64, e_sl_api_Row, e_sl_api_Run, e_additiveref34_seen, e_api_Cell, e_api_Region, e_api_Row, e_api_Run, ↓c19_L0_u, ↓c19_L1_u, c19_0, c19_1, c19_2, c19_3, c19_4, c19_5, c19_6, c19_7, c19_8, c19_9, c19_10, c19_12, c19_13, c19_14, c19_15, c19_16, c19_18]
        · rw [if_neg h28] at h; cases h
    · rw [if_neg c23] at h
      rw [Bool.not_eq_true] at c23
      cases h
      show LK env [] 0 [8, 9, 10] c19_L0 (some (t_additiveref34_Path_L0_st _ _)) = some (t_additiveref34_Path_L0_out _ _)
      simp only [t_additiveref34_Path_L0_st, t_additiveref34_Path_L0_out, e22]
      rw [LK_step]
      simp (maxSteps := 4000000) [c23, e22, e_i64, e_sl_api_Row, e_sl_api_Run, e_additiveref34_seen, e_api_Cell, e_api_Region, e_api_Row, e_api_Run, ↓c19_L0_u, ↓c19_L1_u, c19_0, c19_1, c19_2, c19_3, c19_4, c19_5, c19_6, c19_7, c19_8, c19_9, c19_10, c19_12, c19_13, c19_14, c19_15, c19_16, c19_18]
  | lst l21 =>
    try simp only [e22] at h
    by_cases c30 : (ige s1 0) = true
    · rw [if_pos c30] at h
      cases h32 : fget k0 s1 with
      | none => (rw [h32] at h; cases h)
      | some v33 =>
        simp only [h32] at h
        have f31 := iaddr_F (e := e_additiveref34_seen) h32
        by_cases h35 : fits 16 ((flen (FS.lst l21)) + 1) = true
        · rw [if_pos h35] at h
          have f34 := fun g0 H y => @app_row1 _ _ e_api_Cell _ (FS.lst l21) v33.cell 16 h35 (by decide) g0 H 9 0 26 y
          simp only [e_api_Cell] at f34
          cases h
          show LK env [] 0 [8, 9, 10] c19_L0 (some (t_additiveref34_Path_L0_st _ _)) = LK env [] 0 [8, 9, 10] c19_L0 (some (t_additiveref34_Path_L0_st _ _))
          simp only [t_additiveref34_Path_L0_st, e22]
          rw [LK_step]
          simp (maxSteps := 4000000) [c30, e22, f31, f34, e_i64, e_sl_api_Row, e_sl_api_Run, e_additiveref34_seen, e_api_Cell, e_api_Region, e_api_Row, e_api_Run, ↓c19_L0_u, ↓c19_L1_u, c19_0, c19_1, c19_2, c19_3, c19_4, c19_5, c19_6, c19_7, c19_8, c19_9, c19_10, c19_12, c19_13, c19_14, c19_15, c19_16, c19_18]
        · rw [if_neg h35] at h; cases h
    · rw [if_neg c30] at h
      rw [Bool.not_eq_true] at c30
      cases h
      show LK env [] 0 [8, 9, 10] c19_L0 (some (t_additiveref34_Path_L0_st _ _)) = some (t_additiveref34_Path_L0_out _ _)
      simp only [t_additiveref34_Path_L0_st, t_additiveref34_Path_L0_out, e22]
      rw [LK_step]
      simp (maxSteps := 4000000) [c30, e22, e_i64, e_sl_api_Row, e_sl_api_Run, e_additiveref34_seen, e_api_Cell, e_api_Region, e_api_Row, e_api_Run, ↓c19_L0_u, ↓c19_L1_u, c19_0, c19_1, c19_2, c19_3, c19_4, c19_5, c19_6, c19_7, c19_8, c19_9, c19_10, c19_12, c19_13, c19_14, c19_15, c19_16, c19_18]) bigN s r h
def t_additiveref34_Path_L1 (k0 : (FS api_Cell)) (s : ((FS api_Cell) × Int)) : Option (LR ((FS api_Cell) × Int) (FS api_Cell)) := match s with
 | (s0, s1) => (if (ige s1 0) = true then (match fget k0 s1 with
 | none => none
 | some v28 => (if fits 16 ((flen s0) + 1) = true then some (.nx ((fsnoc s0 v28), (isub .i64 s1 1))) else none))
 else some (.dn s0))
def t_additiveref34_Path_L1_st (k0 : (FS api_Cell)) (s : ((FS api_Cell) × Int)) : St := match s with
 | (s0, s1) => (fcase k0 (fcase s0 (⟨fr [(9, .nils), (11, .nils), (12, .int .i64 s1)], hl []⟩)
  (fun l1 => ⟨fr [(9, .nils), (11, .arr 11 0 0 l1.l.length), (12, .int .i64 s1)], hl [(11, .arr 0 2 26 (cellsE e_api_Cell l1.l) false)]⟩))
  (fun l0 => (fcase s0 (⟨fr [(9, .arr 9 0 0 l0.l.length), (11, .nils), (12, .int .i64 s1)], hl [(9, .arr 0 2 26 (cellsE e_api_Cell l0.l) false)]⟩)
  (fun l1 => ⟨fr [(9, .arr 9 0 0 l0.l.length), (11, .arr 11 0 0 l1.l.length), (12, .int .i64 s1)], hl [(9, .arr 0 2 26 (cellsE e_api_Cell l0.l) false), (11, .arr 0 2 26 (cellsE e_api_Cell l1.l) false)]⟩))))
def t_additiveref34_Path_L1_out (k0 : (FS api_Cell)) (x : (FS api_Cell)) : LE × St := (fcase x (.exit 2, ⟨fr [(11, .nils)], hl []⟩)
  (fun l0 => (.exit 2, ⟨fr [(11, .arr 11 0 0 l0.l.length)], hl [(11, .arr 0 2 26 (cellsE e_api_Cell l0.l) false)]⟩)))
theorem t_additiveref34_Path_L1_ok {k0 : (FS api_Cell)} {s : ((FS api_Cell) × Int)} {r : (FS api_Cell)} (h : loopT (t_additiveref34_Path_L1 k0) bigN s = some r) : LK env [] 0 [9, 11, 12] c19_L1 (some (t_additiveref34_Path_L1_st k0 s)) = some (t_additiveref34_Path_L1_out k0 r) := loop_walk (st := t_additiveref34_Path_L1_st k0) (out := t_additiveref34_Path_L1_out k0) (by
  clear h s r
  rintro ⟨s0, s1⟩ x h
  simp only [t_additiveref34_Path_L1] at h
  cases e43 : k0 with
  | nil =>
    try simp only [e43, flen_nil] at h
    cases e45 : s0 with
    | nil =>
      try simp only [e45, flen_nil] at h
      by_cases c46 : (ige s1 0) = true
      · rw [if_pos c46] at h
        exact absurd h (by simp [fget_nil])
      · rw [if_neg c46] at h
        rw [Bool.not_eq_true] at c46
        cases h
        show LK env [] 0 [9, 11, 12] c19_L1 (some (t_additiveref34_Path_L1_st _ _)) = some (t_additiveref34_Path_L1_out _ _)
        simp only [t_additiveref34_Path_L1_st, t_additiveref34_Path_L1_out, e43, e45]
        rw [LK_step]
        simp (maxSteps := 4000000) [c46, e43, e45, e_i64, e_sl_api_Row, e_sl_api_Run, e_additiveref34_seen, e_api_Cell, e_api_Region, e_api_Row, e_api_Run, ↓c19_L0_u, ↓c19_L1_u, c19_0, c19_1, c19_2, c19_3, c19_4, c19_5, c19_6, c19_7, c19_8, c19_9, c19_10, c19_12, c19_13, c19_14, c19_15, c19_16, c19_18]
    | lst l44 =>
      try simp only [e45] at h
      by_cases c47 : (ige s1 0) = true
      · rw [if_pos c47] at h
        exact absurd h (by simp [fget_nil])
      · rw [if_neg c47] at h
        rw [Bool.not_eq_true] at c47
        cases h
        show LK env [] 0 [9, 11, 12] c19_L1 (some (t_additiveref34_Path_L1_st _ _)) = some (t_additiveref34_Path_L1_out _ _)
        simp only [t_additiveref34_Path_L1_st, t_additiveref34_Path_L1_out, e43, e45]
        rw [LK_step]
        simp (maxSteps := 4000000) [c47, e43, e45, e_i64, e_sl_api_Row, e_sl_api_Run, e_additiveref34_seen, e_api_Cell, e_api_Region, e_api_Row, e_api_Run, ↓c19_L0_u, ↓c19_L1_u, c19_0, c19_1, c19_2, c19_3, c19_4, c19_5, c19_6, c19_7, c19_8, c19_9, c19_10, c19_12, c19_13, c19_14, c19_15, c19_16, c19_18]
  | lst l42 =>
    try simp only [e43] at h
    cases e49 : s0 with
    | nil =>
      try simp only [e49, flen_nil] at h
      by_cases c50 : (ige s1 0) = true
      · rw [if_pos c50] at h
        cases h53 : fget (FS.lst l42) s1 with
        | none => (rw [h53] at h; cases h)
        | some v54 =>
          simp only [h53] at h
          have f51 := iaddr_row (w := 2) h53
          have f52 := h53
          have f55 := (pack_row0 (e := e_api_Cell) f52 true 2 (by decide) (by decide))
          simp only [e_api_Cell] at f55
          by_cases h57 : fits 16 (0 + 1) = true
          · rw [if_pos h57] at h
            have f56 := fun H g0 hg y => @app_nil _ _ e_api_Cell _ v54 16 h57 (by decide) H g0 26 y hg
            simp only [e_api_Cell] at f56
            cases h
            show LK env [] 0 [9, 11, 12] c19_L1 (some (t_additiveref34_Path_L1_st _ _)) = LK env [] 0 [9, 11, 12] c19_L1 (some (t_additiveref34_Path_L1_st _ _))
            simp only [t_additiveref34_Path_L1_st, e43, e49]
            rw [LK_step]
            simp (maxSteps := 4000000) [c50, e43, e49, f51, f55, f56, e_i64, e_sl_api_Row, e_sl_api_Run, e_additiveref34_seen, e_api_Cell, e_api_Region, e_api_Row, e_api_Run, ↓c19_L0_u, ↓c19_L1_u, c19_0, c19_1, c19_2, c19_3, c19_4, c19_5, c19_6, c19_7, c19_8, c19_9, c19_10, c19_12, c19_13, c19_14, c19_15, c19_16, c19_18]
          · rw [if_neg h57] at h; cases h
      · rw [if_neg c50] at h
        rw [Bool.not_eq_true] at c50
        cases h
        show LK env [] 0 [9, 11, 12] c19_L1 (some (t_additiveref34_Path_L1_st _ _)) = some (t_additiveref34_Path_L1_out _ _)
        simp only [t_additiveref34_Path_L1_st, t_additiveref34_Path_L1_out, e43, e49]
        rw [LK_step]
        simp (maxSteps := 4000000) [c50, e43, e49, e_i64, e_sl_api_Row, e_sl_api_Run, e_additiveref34_seen, e_api_Cell, e_api_Region, e_api_Row, e_api_Run, ↓c19_L0_u, ↓c19_L1_u, c19_0, c19_1, c19_2, c19_3, c19_4, c19_5, c19_6, c19_7, c19_8, c19_9, c19_10, c19_12, c19_13, c19_14, c19_15, c19_16, c19_18]
    | lst l48 =>
      try simp only [e49] at h
      by_cases c58 : (ige s1 0) = true
      · rw [if_pos c58] at h
        cases h61 : fget (FS.lst l42) s1 with
        | none => (rw [h61] at h; cases h)
        | some v62 =>
          simp only [h61] at h
          have f59 := iaddr_row (w := 2) h61
          have f60 := h61
          have f63 := (pack_row0 (e := e_api_Cell) f60 true 2 (by decide) (by decide))
          simp only [e_api_Cell] at f63
          by_cases h65 : fits 16 ((flen (FS.lst l48)) + 1) = true
          · rw [if_pos h65] at h
            have f64 := fun g0 H y => @app_row1 _ _ e_api_Cell _ (FS.lst l48) v62 16 h65 (by decide) g0 H 11 0 26 y
            simp only [e_api_Cell] at f64
            cases h
            show LK env [] 0 [9, 11, 12] c19_L1 (some (t_additiveref34_Path_L1_st _ _)) = LK env [] 0 [9, 11, 12] c19_L1 (some (t_additiveref34_Path_L1_st _ _))
            simp only [t_additiveref34_Path_L1_st, e43, e49]
            rw [LK_step]
            simp (maxSteps := 4000000) [c58, e43, e49, f59, f63, f64, e_i64, e_sl_api_Row, e_sl_api_Run, e_additiveref34_seen, e_api_Cell, e_api_Region, e_api_Row, e_api_Run, ↓c19_L0_u, ↓c19_L1_u, c19_0, c19_1, c19_2, c19_3, c19_4, c19_5, c19_6, c19_7, c19_8, c19_9, c19_10, c19_12, c19_13, c19_14, c19_15, c19_16, c19_18]
          · rw [if_neg h65] at h; cases h
      · rw [if_neg c58] at h
        rw [Bool.not_eq_true] at c58
        cases h
        show LK env [] 0 [9, 11, 12] c19_L1 (some (t_additiveref34_Path_L1_st _ _)) = some (t_additiveref34_Path_L1_out _ _)
        simp only [t_additiveref34_Path_L1_st, t_additiveref34_Path_L1_out, e43, e49]
        rw [LK_step]
        simp (maxSteps := 4000000) [c58, e43, e49, e_i64, e_sl_api_Row, e_sl_api_Run, e_additiveref34_seen, e_api_Cell, e_api_Region, e_api_Row, e_api_Run, ↓c19_L0_u, ↓c19_L1_u, c19_0, c19_1, c19_2, c19_3, c19_4, c19_5, c19_6, c19_7, c19_8, c19_9, c19_10, c19_12, c19_13, c19_14, c19_15, c19_16, c19_18]) bigN s r h
def t_additiveref34_Path (p0 : api_Region) (p1 : api_Cell) (p2 : api_Cell) : Option ((FS api_Cell) × Bool) := (match t_additiveref18_Contains p0 p1 with
 | none => none
 | some v3 => (match gOpt (bnot (bnot v3)) (t_additiveref18_Contains p0 p2) with
 | none => none
 | some v6 => (if (bor (bnot v3) (bnot (v6.getD false))) = true then some ((FS.nil : (FS api_Cell)), false)
 else (match t_additiveref34_search p0 p1 p2 with
 | none => none
 | some v10 => (match fget v10 (isub .i64 (flen v10) 1) with
 | none => none
 | some v13 => (if (bnot (band (ieq v13.cell.X p2.X) (band (ieq v13.cell.Y p2.Y) true))) = true then some ((FS.nil : (FS api_Cell)), false)
 else (match loopT (t_additiveref34_Path_L0 v10) bigN ((FS.nil : (FS api_Cell)), (isub .i64 (flen v10) 1)) with
 | none => none
 | some v23 => (match loopT (t_additiveref34_Path_L1 v23) bigN ((FS.nil : (FS api_Cell)), (isub .i64 (flen v23) 1)) with
 | none => none
 | some v33 => some (v33, true)))))))))
theorem t_additiveref34_Path_ok {p0 : api_Region} {p1 : api_Cell} {p2 : api_Cell} {r : ((FS api_Cell) × Bool)} (h : t_additiveref34_Path p0 p1 p2 = some r) : FC env 19 [.agg [encF e_api_Row p0.Rows], .agg [.int .i64 p1.X, .int .i64 p1.Y], .agg [.int .i64 p2.X, .int .i64 p2.Y]] none = some (.tup [encF e_api_Cell r.1, .bool r.2], fun _ => none) := by
  unfold t_additiveref34_Path at h
  cases h2 : t_additiveref18_Contains p0 p1 with
  | none => (rw [h2] at h; cases h)
  | some v3 =>
    simp only [h2] at h
    have f1 := t_additiveref18_Contains_ok h2
    cases h5 : gOpt (bnot (bnot v3)) (t_additiveref18_Contains p0 p2) with
    | none => (rw [h5] at h; cases h)
    | some v6 =>
      simp only [h5] at h
      have f4 := fun (q0 : (bnot v3) = false) => t_additiveref18_Contains_ok (gOpt_getD false h5 (bnot_mk q0))
      by_cases c7 : (bor (bnot v3) (bnot (v6.getD false))) = true
      · rw [if_pos c7] at h
        cases h
        refine FC_pure (lf := lf19) rfl rfl rfl ?_
        simp only [lf19, lc19, c19_0, c19_1, c19_2, c19_3, c19_4, c19_5, c19_6, c19_7, c19_8, c19_9, c19_10, c19_12, c19_13, c19_14, c19_15, c19_16, c19_18]
        rcases tof v3 with a8 | a8
        · rcases tof (v6.getD false) with a9 | a9
          · simp [a8, a9] at c7
          · simp (maxSteps := 4000000) [a8, a9, f1, f4, e_i64, e_sl_api_Row, e_sl_api_Run, e_additiveref34_seen, e_api_Cell, e_api_Region, e_api_Row, e_api_Run, ↓c19_L0_u, ↓c19_L1_u, snap_tupE, tupS, snap7_int, snap7_bool, snap7_str, snap7_nils, snap7_agg]
        · simp (maxSteps := 4000000) [a8, f1, f4, e_i64, e_sl_api_Row, e_sl_api_Run, e_additiveref34_seen, e_api_Cell, e_api_Region, e_api_Row, e_api_Run, ↓c19_L0_u, ↓c19_L1_u, snap_tupE, tupS, snap7_int, snap7_bool, snap7_str, snap7_nils, snap7_agg]
      · rw [if_neg c7] at h
        rw [Bool.not_eq_true] at c7
        cases h11 : t_additiveref34_search p0 p1 p2 with
        | none => (rw [h11] at h; cases h)
        | some v12 =>
          simp only [h11] at h
          have f10 := t_additiveref34_search_ok h11
          cases h14 : fget v12 (isub .i64 (flen v12) 1) with
          | none => (rw [h14] at h; cases h)
          | some v15 =>
            simp only [h14] at h
            have f13 := iaddr_F (e := e_additiveref34_seen) h14
            by_cases c16 : (bnot (band (ieq v15.cell.X p2.X) (band (ieq v15.cell.Y p2.Y) true))) = true
            · rw [if_pos c16] at h
              cases h
              refine FC_pure (lf := lf19) rfl rfl rfl ?_
              simp only [lf19, lc19, c19_0, c19_1, c19_2, c19_3, c19_4, c19_5, c19_6, c19_7, c19_8, c19_9, c19_10, c19_12, c19_13, c19_14, c19_15, c19_16, c19_18]
              rcases tof v3 with a17 | a17
              · rcases tof (v6.getD false) with a18 | a18
                · rcases tof (ieq v15.cell.X p2.X) with a19 | a19
                  · rcases tof (ieq v15.cell.Y p2.Y) with a20 | a20
                    · simp [a17, a18, a19, a20] at c16
                    · simp (maxSteps := 4000000) [a17, a18, a19, a20, f1, f4, f10, f13, e_i64, e_sl_api_Row, e_sl_api_Run, e_additiveref34_seen, e_api_Cell, e_api_Region, e_api_Row, e_api_Run, ↓c19_L0_u, ↓c19_L1_u, snap_tupE, tupS, snap7_int, snap7_bool, snap7_str, snap7_nils, snap7_agg]
                  · simp (maxSteps := 4000000) [a17, a18, a19, f1, f4, f10, f13, e_i64, e_sl_api_Row, e_sl_api_Run, e_additiveref34_seen, e_api_Cell, e_api_Region, e_api_Row, e_api_Run, ↓c19_L0_u, ↓c19_L1_u, snap_tupE, tupS, snap7_int, snap7_bool, snap7_str, snap7_nils, snap7_agg]
                · simp [a17, a18] at c7
              · simp [a17] at c7
            · rw [if_neg c16] at h
              rw [Bool.not_eq_true] at c16
              cases h37 : loopT (t_additiveref34_Path_L0 v12) bigN ((FS.nil : (FS api_Cell)), (isub .i64 (flen v12) 1)) with
              | none => (rw [h37] at h; cases h)
              | some v38 =>
                simp only [h37] at h
                have f39 := t_additiveref34_Path_L0_ok h37
                simp only [t_additiveref34_Path_L0_st, t_additiveref34_Path_L0_out, fset_len] at f39
                cases e41 : v38 with
                | nil =>
                  try simp only [e41, flen_nil] at h
                  simp only [e41, flen_nil, fcase_nil, fcase_lst] at f39
                  cases h66 : loopT (t_additiveref34_Path_L1 (FS.nil : (FS api_Cell))) bigN ((FS.nil : (FS api_Cell)), (isub .i64 0 1)) with
                  | none => (rw [h66] at h; cases h)
                  | some v67 =>
                    simp only [h66] at h
                    have f68 := t_additiveref34_Path_L1_ok h66
                    simp only [t_additiveref34_Path_L1_st, t_additiveref34_Path_L1_out, fset_len] at f68
                    cases e70 : v67 with
                    | nil =>
                      try simp only [e70, flen_nil] at h
                      simp only [e70, flen_nil, fcase_nil, fcase_lst] at f68
                      cases h
                      refine FC_pure (lf := lf19) rfl rfl rfl ?_
                      simp only [lf19, lc19, c19_0, c19_1, c19_2, c19_3, c19_4, c19_5, c19_6, c19_7, c19_8, c19_9, c19_10, c19_12, c19_13, c19_14, c19_15, c19_16, c19_18]
                      rcases tof v3 with a71 | a71
                      · rcases tof (v6.getD false) with a72 | a72
                        · rcases tof (ieq v15.cell.X p2.X) with a73 | a73
                          · rcases tof (ieq v15.cell.Y p2.Y) with a74 | a74
                            · try simp only [a71, a72, a73, a74] at f39 f68
                              simp (maxSteps := 4000000) [a71, a72, a73, a74, f1, f4, f10, f13, f39, e41, f68, e70, e_i64, e_sl_api_Row, e_sl_api_Run, e_additiveref34_seen, e_api_Cell, e_api_Region, e_api_Row, e_api_Run, ↓c19_L0_u, ↓c19_L1_u, snap_tupE, tupS, snap7_int, snap7_bool, snap7_str, snap7_nils, snap7_agg]
                            · simp [a71, a72, a73, a74] at c16
                          · simp [a71, a72, a73] at c16
                        · simp [a71, a72] at c7
                      · simp [a71] at c7
                    | lst l69 =>
                      try simp only [e70] at h
                      simp only [e70, flen_nil, fcase_nil, fcase_lst] at f68
                      cases h
                      refine FC_pure (lf := lf19) rfl rfl rfl ?_
                      simp only [lf19, lc19, c19_0, c19_1, c19_2, c19_3, c19_4, c19_5, c19_6, c19_7, c19_8, c19_9, c19_10, c19_12, c19_13, c19_14, c19_15, c19_16, c19_18]
                      rcases tof v3 with a75 | a75
                      · rcases tof (v6.getD false) with a76 | a76
                        · rcases tof (ieq v15.cell.X p2.X) with a77 | a77
                          · rcases tof (ieq v15.cell.Y p2.Y) with a78 | a78
                            · try simp only [a75, a76, a77, a78] at f39 f68
                              simp (maxSteps := 4000000) [a75, a76, a77, a78, f1, f4, f10, f13, f39, e41, f68, e70, e_i64, e_sl_api_Row, e_sl_api_Run, e_additiveref34_seen, e_api_Cell, e_api_Region, e_api_Row, e_api_Run, ↓c19_L0_u, ↓c19_L1_u, snap_row7 (e := e_api_Cell) (el := 26) (fz := false), snap_tupE, tupS, snap7_int, snap7_bool, snap7_str, snap7_nils, snap7_agg]
                            · simp [a75, a76, a77, a78] at c16
                          · simp [a75, a76, a77] at c16
                        · simp [a75, a76] at c7
                      · simp [a75] at c7
                | lst l40 =>
                  try simp only [e41] at h
                  simp only [e41, flen_nil, fcase_nil, fcase_lst] at f39
                  cases h79 : loopT (t_additiveref34_Path_L1 (FS.lst l40)) bigN ((FS.nil : (FS api_Cell)), (isub .i64 (flen (FS.lst l40)) 1)) with
                  | none => (rw [h79] at h; cases h)
                  | some v80 =>
                    simp only [h79] at h
                    have f81 := t_additiveref34_Path_L1_ok h79
                    simp only [t_additiveref34_Path_L1_st, t_additiveref34_Path_L1_out, fset_len] at f81
                    cases e83 : v80 with
                    | nil =>
                      try simp only [e83, flen_nil] at h
                      simp only [e83, flen_nil, fcase_nil, fcase_lst] at f81
                      cases h
                      refine FC_pure (lf := lf19) rfl rfl rfl ?_
                      simp only [lf19, lc19, c19_0, c19_1, c19_2, c19_3, c19_4, c19_5, c19_6, c19_7, c19_8, c19_9, c19_10, c19_12, c19_13, c19_14, c19_15, c19_16, c19_18]
                      rcases tof v3 with a84 | a84
                      · rcases tof (v6.getD false) with a85 | a85
                        · rcases tof (ieq v15.cell.X p2.X) with a86 | a86
                          · rcases tof (ieq v15.cell.Y p2.Y) with a87 | a87
                            · try simp only [a84, a85, a86, a87] at f39 f81
                              simp (maxSteps := 4000000) [a84, a85, a86, a87, f1, f4, f10, f13, f39, e41, f81, e83, e_i64, e_sl_api_Row, e_sl_api_Run, e_additiveref34_seen, e_api_Cell, e_api_Region, e_api_Row, e_api_Run, ↓c19_L0_u, ↓c19_L1_u, snap_tupE, tupS, snap7_int, snap7_bool, snap7_str, snap7_nils, snap7_agg]
                            · simp [a84, a85, a86, a87] at c16
                          · simp [a84, a85, a86] at c16
                        · simp [a84, a85] at c7
                      · simp [a84] at c7
                    | lst l82 =>
                      try simp only [e83] at h
                      simp only [e83, flen_nil, fcase_nil, fcase_lst] at f81
                      cases h
                      refine FC_pure (lf := lf19) rfl rfl rfl ?_
                      simp only [lf19, lc19, c19_0, c19_1, c19_2, c19_3, c19_4, c19_5, c19_6, c19_7, c19_8, c19_9, c19_10, c19_12, c19_13, c19_14, c19_15, c19_16, c19_18]
                      rcases tof v3 with a88 | a88
                      · rcases tof (v6.getD false) with a89 | a89
                        · rcases tof (ieq v15.cell.X p2.X) with a90 | a90
                          · rcases tof (ieq v15.cell.Y p2.Y) with a91 | a91
                            · try simp only [a88, a89, a90, a91] at f39 f81
                              simp (maxSteps := 4000000) [a88, a89, a90, a91, f1, f4, f10, f13, f39, e41, f81, e83, e_i64, e_sl_api_Row, e_sl_api_Run, e_additiveref34_seen, e_api_Cell, e_api_Region, e_api_Row, e_api_Run, ↓c19_L0_u, ↓c19_L1_u, snap_row7 (e := e_api_Cell) (el := 26) (fz := false), snap_tupE, tupS, snap7_int, snap7_bool, snap7_str, snap7_nils, snap7_agg]
                            · simp [a88, a89, a90, a91] at c16
                          · simp [a88, a89, a90] at c16
                        · simp [a88, a89] at c7
                      · simp [a88] at c7

/-! additivelaw34.cells -/
theorem c20_L0_u (Γ : Env) (ps : List Nat) (σ : St) : EC Γ ps 0 c20_L0 σ = EC Γ ps 0 (.seq (.seq (.reg false c20_4) (.cond (.t 14) .skip (.seq (.trim []) (.exit 0)))) (.seq (.blk 1 (.seq (.reg true c20_5) (.cond (.t 25) (.seq (.reg false c20_6) (.seq (.trim [4]) .ret)) .skip))) (.reg false c20_7))) σ := rfl
def t_additivelaw34_cells_L0 (k0 : (FS api_Cell)) (k1 : (FS api_Cell)) (s : Int) : Option (LR Int (Bool ⊕ Unit)) := match s with
 | s0 => (if (ilt s0 (flen k0)) = true then (match fget k0 s0 with
 | none => none
 | some v5 => (match fget k1 s0 with
 | none => none
 | some v8 => (if (bnot (band (ieq v5.X v8.X) (band (ieq v5.Y v8.Y) true))) = true then some (.dn (.inl false))
 else some (.nx (iadd .i64 s0 1)))))
 else some (.dn (.inr ())))
def t_additivelaw34_cells_L0_st (k0 : (FS api_Cell)) (k1 : (FS api_Cell)) (s : Int) : St := match s with
 | s0 => ⟨fr [(0, encF e_api_Cell k0), (1, encF e_api_Cell k1), (5, .int .i64 s0)], hl []⟩
def t_additivelaw34_cells_L0_out (k0 : (FS api_Cell)) (k1 : (FS api_Cell)) (x : (Bool ⊕ Unit)) : LE × St := match x with
 | .inl x => (.ret, ⟨fr [(4, .bool x)], hl []⟩)
 | .inr x => (.exit 0, ⟨fr [], hl []⟩)
theorem t_additivelaw34_cells_L0_ok {k0 : (FS api_Cell)} {k1 : (FS api_Cell)} {s : Int} {r : (Bool ⊕ Unit)} (h : loopT (t_additivelaw34_cells_L0 k0 k1) bigN s = some r) : LK env [] 0 [0, 1, 5] c20_L0 (some (t_additivelaw34_cells_L0_st k0 k1 s)) = some (t_additivelaw34_cells_L0_out k0 k1 r) := loop_walk (st := t_additivelaw34_cells_L0_st k0 k1) (out := t_additivelaw34_cells_L0_out k0 k1) (by
  clear h s r
  rintro s0 x h
  simp only [t_additivelaw34_cells_L0] at h
  by_cases c2 : (ilt s0 (flen k0)) = true
  · rw [if_pos c2] at h
    cases h4 : fget k0 s0 with
    | none => (rw [h4] at h; cases h)
    | some v5 =>
      simp only [h4] at h
      have f3 := iaddr_F (e := e_api_Cell) h4
      cases h7 : fget k1 s0 with
      | none => (rw [h7] at h; cases h)
      | some v8 =>
        simp only [h7] at h
        have f6 := iaddr_F (e := e_api_Cell) h7
        by_cases c9 : (bnot (band (ieq v5.X v8.X) (band (ieq v5.Y v8.Y) true))) = true
        · rw [if_pos c9] at h
          cases h
          show LK env [] 0 [0, 1, 5] c20_L0 (some (t_additivelaw34_cells_L0_st _ _ _)) = some (t_additivelaw34_cells_L0_out _ _ _)
          simp only [t_additivelaw34_cells_L0_st, t_additivelaw34_cells_L0_out]
          rw [LK_step]
          rcases tof (ieq v5.X v8.X) with a10 | a10
          · rcases tof (ieq v5.Y v8.Y) with a11 | a11
            · simp [c2, a10, a11] at c9
            · simp (maxSteps := 4000000) [c2, a10, a11, f3, f6, e_i64, e_sl_api_Row, e_sl_api_Run, e_additiveref34_seen, e_api_Cell, e_api_Region, e_api_Row, e_api_Run, ↓c20_L0_u, c20_0, c20_1, c20_2, c20_3, c20_4, c20_5, c20_6, c20_7, c20_9]
          · simp (maxSteps := 4000000) [c2, a10, f3, f6, e_i64, e_sl_api_Row, e_sl_api_Run, e_additiveref34_seen, e_api_Cell, e_api_Region, e_api_Row, e_api_Run, ↓c20_L0_u, c20_0, c20_1, c20_2, c20_3, c20_4, c20_5, c20_6, c20_7, c20_9]
        · rw [if_neg c9] at h
          rw [Bool.not_eq_true] at c9
          cases h
          show LK env [] 0 [0, 1, 5] c20_L0 (some (t_additivelaw34_cells_L0_st _ _ _)) = LK env [] 0 [0, 1, 5] c20_L0 (some (t_additivelaw34_cells_L0_st _ _ _))
          simp only [t_additivelaw34_cells_L0_st]
          rw [LK_step]
          rcases tof (ieq v5.X v8.X) with a12 | a12
          · rcases tof (ieq v5.Y v8.Y) with a13 | a13
            · simp (maxSteps := 4000000) [c2, a12, a13, f3, f6, e_i64, e_sl_api_Row, e_sl_api_Run, e_additiveref34_seen, e_api_Cell, e_api_Region, e_api_Row, e_api_Run, ↓c20_L0_u, c20_0, c20_1, c20_2, c20_3, c20_4, c20_5, c20_6, c20_7, c20_9]
            · simp [c2, a12, a13] at c9
          · simp [c2, a12] at c9
  · rw [if_neg c2] at h
    rw [Bool.not_eq_true] at c2
    cases h
    show LK env [] 0 [0, 1, 5] c20_L0 (some (t_additivelaw34_cells_L0_st _ _ _)) = some (t_additivelaw34_cells_L0_out _ _ _)
    simp only [t_additivelaw34_cells_L0_st, t_additivelaw34_cells_L0_out]
    rw [LK_step]
    simp (maxSteps := 4000000) [c2, e_i64, e_sl_api_Row, e_sl_api_Run, e_additiveref34_seen, e_api_Cell, e_api_Region, e_api_Row, e_api_Run, ↓c20_L0_u, c20_0, c20_1, c20_2, c20_3, c20_4, c20_5, c20_6, c20_7, c20_9]) bigN s r h
def t_additivelaw34_cells (p0 : (FS api_Cell)) (p1 : (FS api_Cell)) : Option Bool := (if (ine (flen p0) (flen p1)) = true then some false
 else (match loopT (t_additivelaw34_cells_L0 p0 p1) bigN 0 with
 | none => none
 | some v11 => (match v11 with
 | .inl v11x => some v11x
 | .inr v11x => some true)))
theorem t_additivelaw34_cells_ok {p0 : (FS api_Cell)} {p1 : (FS api_Cell)} {r : Bool} (h : t_additivelaw34_cells p0 p1 = some r) : FC env 20 [encF e_api_Cell p0, encF e_api_Cell p1] none = some (.bool r, fun _ => none) := by
  unfold t_additivelaw34_cells at h
  by_cases c1 : (ine (flen p0) (flen p1)) = true
  · rw [if_pos c1] at h
    cases h
    refine FC_pure (lf := lf20) rfl rfl rfl ?_
    simp only [lf20, lc20, c20_0, c20_1, c20_2, c20_3, c20_4, c20_5, c20_6, c20_7, c20_9]
    simp (maxSteps := 4000000) [c1, e_i64, e_sl_api_Row, e_sl_api_Run, e_additiveref34_seen, e_api_Cell, e_api_Region, e_api_Row, e_api_Run, ↓c20_L0_u]
  · rw [if_neg c1] at h
    rw [Bool.not_eq_true] at c1
    cases h14 : loopT (t_additivelaw34_cells_L0 p0 p1) bigN 0 with
    | none => (rw [h14] at h; cases h)
    | some v15 =>
      simp only [h14] at h
      have f16 := t_additivelaw34_cells_L0_ok h14
      cases v15 with
      | inl v15x =>
        try simp only at h
        simp only [t_additivelaw34_cells_L0_st, t_additivelaw34_cells_L0_out, fset_len] at f16
        try simp only [fcase_nil, fcase_lst, fcase_fsnoc, fcase_fapp, fcase_fset, fcase_frep, fcase_flit, fcase_flst] at f16
        cases h
        refine FC_pure (lf := lf20) rfl rfl rfl ?_
        simp only [lf20, lc20, c20_0, c20_1, c20_2, c20_3, c20_4, c20_5, c20_6, c20_7, c20_9]
        try simp only [c1] at f16
        simp (maxSteps := 4000000) [c1, f16, e_i64, e_sl_api_Row, e_sl_api_Run, e_additiveref34_seen, e_api_Cell, e_api_Region, e_api_Row, e_api_Run, ↓c20_L0_u]
      | inr v15x =>
        try simp only at h
        simp only [t_additivelaw34_cells_L0_st, t_additivelaw34_cells_L0_out, fset_len] at f16
        try simp only [fcase_nil, fcase_lst, fcase_fsnoc, fcase_fapp, fcase_fset, fcase_frep, fcase_flit, fcase_flst] at f16
        cases h
        refine FC_pure (lf := lf20) rfl rfl rfl ?_
        simp only [lf20, lc20, c20_0, c20_1, c20_2, c20_3, c20_4, c20_5, c20_6, c20_7, c20_9]
        try simp only [c1] at f16
        simp (maxSteps := 4000000) [c1, f16, e_i64, e_sl_api_Row, e_sl_api_Run, e_additiveref34_seen, e_api_Cell, e_api_Region, e_api_Row, e_api_Run, ↓c20_L0_u]

/-! comb.Distance -/
def t_comb_Distance (p0 : api_Region) (p1 : api_Cell) (p2 : api_Cell) : Option Int := (match t_comb_Path p0 p1 p2 with
 | none => none
 | some v3 => (if (bnot v3.2) = true then some (-1)
 else some (isub .i64 (flen v3.1) 1)))
theorem t_comb_Distance_ok {p0 : api_Region} {p1 : api_Cell} {p2 : api_Cell} {r : Int} (h : t_comb_Distance p0 p1 p2 = some r) : FC env 21 [.agg [encF e_api_Row p0.Rows], .agg [.int .i64 p1.X, .int .i64 p1.Y], .agg [.int .i64 p2.X, .int .i64 p2.Y]] none = some (.int .i64 r, fun _ => none) := by
  unfold t_comb_Distance at h
  cases h2 : t_comb_Path p0 p1 p2 with
  | none => (rw [h2] at h; cases h)
  | some v3 =>
    simp only [h2] at h
    have f1 := t_comb_Path_ok h2
    by_cases c4 : (bnot v3.2) = true
    · rw [if_pos c4] at h
      cases h
      refine FC_pure (lf := lf21) rfl rfl rfl ?_
      simp only [lf21, lc21, c21_0, c21_1, c21_2, c21_3, c21_4]
      rcases tof v3.2 with a5 | a5
      · simp [a5] at c4
      · simp (maxSteps := 4000000) [a5, f1, e_i64, e_sl_api_Row, e_sl_api_Run, e_additiveref34_seen, e_api_Cell, e_api_Region, e_api_Row, e_api_Run]
    · rw [if_neg c4] at h
      rw [Bool.not_eq_true] at c4
      cases h
      refine FC_pure (lf := lf21) rfl rfl rfl ?_
      simp only [lf21, lc21, c21_0, c21_1, c21_2, c21_3, c21_4]
      rcases tof v3.2 with a6 | a6
      · simp (maxSteps := 4000000) [a6, f1, e_i64, e_sl_api_Row, e_sl_api_Run, e_additiveref34_seen, e_api_Cell, e_api_Region, e_api_Row, e_api_Run]
      · simp [a6] at c4

/-! additiveref34.Distance -/
def t_additiveref34_Distance (p0 : api_Region) (p1 : api_Cell) (p2 : api_Cell) : Option Int := (match t_additiveref34_Path p0 p1 p2 with
 | none => none
 | some v3 => (if (bnot v3.2) = true then some (-1)
 else some (isub .i64 (flen v3.1) 1)))
theorem t_additiveref34_Distance_ok {p0 : api_Region} {p1 : api_Cell} {p2 : api_Cell} {r : Int} (h : t_additiveref34_Distance p0 p1 p2 = some r) : FC env 22 [.agg [encF e_api_Row p0.Rows], .agg [.int .i64 p1.X, .int .i64 p1.Y], .agg [.int .i64 p2.X, .int .i64 p2.Y]] none = some (.int .i64 r, fun _ => none) := by
  unfold t_additiveref34_Distance at h
  cases h2 : t_additiveref34_Path p0 p1 p2 with
  | none => (rw [h2] at h; cases h)
  | some v3 =>
    simp only [h2] at h
    have f1 := t_additiveref34_Path_ok h2
    by_cases c4 : (bnot v3.2) = true
    · rw [if_pos c4] at h
      cases h
      refine FC_pure (lf := lf22) rfl rfl rfl ?_
      simp only [lf22, lc22, c22_0, c22_1, c22_2, c22_3, c22_4]
      rcases tof v3.2 with a5 | a5
      · simp [a5] at c4
      · simp (maxSteps := 4000000) [a5, f1, e_i64, e_sl_api_Row, e_sl_api_Run, e_additiveref34_seen, e_api_Cell, e_api_Region, e_api_Row, e_api_Run]
    · rw [if_neg c4] at h
      rw [Bool.not_eq_true] at c4
      cases h
      refine FC_pure (lf := lf22) rfl rfl rfl ?_
      simp only [lf22, lc22, c22_0, c22_1, c22_2, c22_3, c22_4]
      rcases tof v3.2 with a6 | a6
      · simp (maxSteps := 4000000) [a6, f1, e_i64, e_sl_api_Row, e_sl_api_Run, e_additiveref34_seen, e_api_Cell, e_api_Region, e_api_Row, e_api_Run]
      · simp [a6] at c4

/-! additivelaw34.CombPaths -/
def t_additivelaw34_CombPaths (p0 : api_Region) (p1 : api_Cell) (p2 : api_Cell) : Option Bool := (match t_additivelaw18_Small p0 with
 | none => none
 | some v3 => (if (bnot v3) = true then some u_additivelaw34_awake
 else (match t_comb_Path p0 p1 p2 with
 | none => none
 | some v8 => (match t_additiveref34_Path p0 p1 p2 with
 | none => none
 | some v11 => (match t_additivelaw34_cells v8.1 v11.1 with
 | none => none
 | some v14 => (match gOpt (band v14 (band (beqB v8.2 v11.2) true)) (t_comb_Distance p0 p1 p2) with
 | none => none
 | some v17 => (match gOpt (band v14 (band (beqB v8.2 v11.2) true)) (t_additiveref34_Distance p0 p1 p2) with
 | none => none
 | some v20 => some (band (band (band v14 (band (beqB v8.2 v11.2) true)) (ieq (v17.getD 0) (v20.getD 0))) u_additivelaw34_awake))))))))
theorem t_additivelaw34_CombPaths_ok {p0 : api_Region} {p1 : api_Cell} {p2 : api_Cell} {r : Bool} (h : t_additivelaw34_CombPaths p0 p1 p2 = some r) : FC env 3 [.agg [encF e_api_Row p0.Rows], .agg [.int .i64 p1.X, .int .i64 p1.Y], .agg [.int .i64 p2.X, .int .i64 p2.Y]] none = some (.bool r, fun _ => none) := by
  unfold t_additivelaw34_CombPaths at h
  cases h2 : t_additivelaw18_Small p0 with
  | none => (rw [h2] at h; cases h)
  | some v3 =>
    simp only [h2] at h
    have f1 := t_additivelaw18_Small_ok h2
    by_cases c4 : (bnot v3) = true
    · rw [if_pos c4] at h
      have f5 := u_additivelaw34_awake_ok 
      cases h
      refine FC_pure (lf := lf3) rfl rfl rfl ?_
      simp only [lf3, lc3, c3_0, c3_1, c3_2, c3_3, c3_4, c3_5]
      rcases tof v3 with a6 | a6
      · simp [a6] at c4
      · simp (maxSteps := 4000000) [a6, f1, f5, e_i64, e_sl_api_Row, e_sl_api_Run, e_additiveref34_seen, e_api_Cell, e_api_Region, e_api_Row, e_api_Run]
    · rw [if_neg c4] at h
      rw [Bool.not_eq_true] at c4
      cases h8 : t_comb_Path p0 p1 p2 with
      | none => (rw [h8] at h; cases h)
      | some v9 =>
        simp only [h8] at h
        have f7 := t_comb_Path_ok h8
        cases h11 : t_additiveref34_Path p0 p1 p2 with
        | none => (rw [h11] at h; cases h)
        | some v12 =>
          simp only [h11] at h
          have f10 := t_additiveref34_Path_ok h11
          cases h14 : t_additivelaw34_cells v9.1 v12.1 with
          | none => (rw [h14] at h; cases h)
          | some v15 =>
            simp only [h14] at h
            have f13 := t_additivelaw34_cells_ok h14
            cases h17 : gOpt (band v15 (band (beqB v9.2 v12.2) true)) (t_comb_Distance p0 p1 p2) with
            | none => (rw [h17] at h; cases h)
            | some v18 =>
              simp only [h17] at h
              have f16 := fun (q0 : (band v15 (band (beqB v9.2 v12.2) true)) = true) => t_comb_Distance_ok (gOpt_getD 0 h17 q0)
              cases h20 : gOpt (band v15 (band (beqB v9.2 v12.2) true)) (t_additiveref34_Distance p0 p1 p2) with
              | none => (rw [h20] at h; cases h)
              | some v21 =>
                simp only [h20] at h
                have f19 := fun (q0 : (band v15 (band (beqB v9.2 v12.2) true)) = true) => t_additiveref34_Distance_ok (gOpt_getD 0 h20 q0)
                have f22 := u_additivelaw34_awake_ok 
                cases h
                refine FC_pure (lf := lf3) rfl rfl rfl ?_
                simp only [lf3, lc3, c3_0, c3_1, c3_2, c3_3, c3_4, c3_5]
                rcases tof v3 with a23 | a23
                · rcases tof v15 with a24 | a24
                  · rcases tof (beqB v9.2 v12.2) with a25 | a25
                    · rcases tof (ieq (v18.getD 0) (v21.getD 0)) with a26 | a26
                      · simp (maxSteps := 4000000) [a23, a24, a25, a26, f1, f7, f10, f13, f16, f19, f22, e_i64, e_sl_api_Row, e_sl_api_Run, e_additiveref34_seen, e_api_Cell, e_api_Region, e_api_Row, e_api_Run]
                      · simp (maxSteps := 4000000) [a23, a24, a25, a26, f1, f7, f10, f13, f16, f19, f22, e_i64, e_sl_api_Row, e_sl_api_Run, e_additiveref34_seen, e_api_Cell, e_api_Region, e_api_Row, e_api_Run]
                    · simp (maxSteps := 4000000) [a23, a24, a25, f1, f7, f10, f13, f16, f19, f22, e_i64, e_sl_api_Row, e_sl_api_Run, e_additiveref34_seen, e_api_Cell, e_api_Region, e_api_Row, e_api_Run]
                  · simp (maxSteps := 4000000) [a23, a24, f1, f7, f10, f13, f16, f19, f22, e_i64, e_sl_api_Row, e_sl_api_Run, e_additiveref34_seen, e_api_Cell, e_api_Region, e_api_Row, e_api_Run]
                · simp [a23] at c4

/-! additivelaw34.eased -/
def u_additivelaw34_eased : Bool := true
theorem u_additivelaw34_eased_ok : FC env 32 [] none = some (.bool u_additivelaw34_eased, fun _ => none) := FC_iff.2 ⟨60, by kernel_rfl⟩

/-! comb.steps -/
def u_comb_steps  : (A4 api_Cell) := (⟨(⟨1, 0⟩ : api_Cell), (⟨(-1), 0⟩ : api_Cell), (⟨0, 1⟩ : api_Cell), (⟨0, (-1)⟩ : api_Cell)⟩ : (A4 api_Cell))
def t_comb_steps  : Option (A4 api_Cell) := some (u_comb_steps )
theorem u_comb_steps_ok  : FC env 65 [] none = some (.agg [.int .i64 ((((u_comb_steps )).a0).X), .int .i64 ((((u_comb_steps )).a0).Y), .int .i64 ((((u_comb_steps )).a1).X), .int .i64 ((((u_comb_steps )).a1).Y), .int .i64 ((((u_comb_steps )).a2).X), .int .i64 ((((u_comb_steps )).a2).Y), .int .i64 ((((u_comb_steps )).a3).X), .int .i64 ((((u_comb_steps )).a3).Y)], fun _ => none) := by
  unfold u_comb_steps
  refine FC_pure (lf := lf65) rfl rfl rfl ?_
  simp only [lf65, lc65, c65_0, c65_1]
  simp (maxSteps := 4000000) [e_a4_i64, e_i64, e_sl_api_Row, e_sl_api_Run, e_additiveref34_seen, e_api_Cell, e_api_Region, e_api_Row, e_api_Run, e_comb_state]
theorem t_comb_steps_ok {r : (A4 api_Cell)} (h : t_comb_steps  = some r) : FC env 65 [] none = some (.agg [.int .i64 r.a0.X, .int .i64 r.a0.Y, .int .i64 r.a1.X, .int .i64 r.a1.Y, .int .i64 r.a2.X, .int .i64 r.a2.Y, .int .i64 r.a3.X, .int .i64 r.a3.Y], fun _ => none) := by
  cases h
  exact u_comb_steps_ok 

/-! comb.behind -/
theorem c64_L0_u (Γ : Env) (ps : List Nat) (σ : St) : EC Γ ps 0 c64_L0 σ = EC Γ ps 0 (.seq (.reg false c64_3) (.seq (.cond (.t 13) .skip (.seq (.trim [6, 7]) (.exit 0))) (.seq (.blk 1 (.seq (.reg false c64_4) (.seq (.seq (.reg false c64_5) (.cond (.t 22) (.reg false c64_6) .skip)) (.seq (.reg false c64_7) (.cond (.t 27) (.reg false c64_8) .skip))))) (.reg false c64_9)))) σ := rfl
def t_comb_behind_L0 (k0 : Int) (k1 : (A4 Int)) (s : (Int × Int × Int)) : Option (LR (Int × Int × Int) (Int × Int)) := match s with
 | (s0, s1, s2) => (if (ilt s2 4) = true then (if inB s2 4 = true then (if (band (ige k0 0) (ine s2 k0)) = true then (if (ilt (iadd .i64 (A4.get k1 s2) 1) s0) = true then some (.nx ((iadd .i64 (A4.get k1 s2) 1), s2, (iadd .i64 s2 1)))
 else some (.nx (s0, s1, (iadd .i64 s2 1))))
 else (if (ilt (A4.get k1 s2) s0) = true then some (.nx ((A4.get k1 s2), s2, (iadd .i64 s2 1)))
 else some (.nx (s0, s1, (iadd .i64 s2 1))))) else none)
 else some (.dn (s0, s1)))
def t_comb_behind_L0_st (k0 : Int) (k1 : (A4 Int)) (s : (Int × Int × Int)) : St := match s with
 | (s0, s1, s2) => ⟨fr [(1, .int .i64 k0), (6, .int .i64 s0), (7, .int .i64 s1), (11, .agg [.int .i64 k1.a0, .int .i64 k1.a1, .int .i64 k1.a2, .int .i64 k1.a3]), (12, .int .i64 s2)], hl []⟩
def t_comb_behind_L0_out (k0 : Int) (k1 : (A4 Int)) (x : (Int × Int)) : LE × St := (.exit 0, ⟨fr [(6, .int .i64 x.1), (7, .int .i64 x.2)], hl []⟩)
theorem t_comb_behind_L0_ok {k0 : Int} {k1 : (A4 Int)} {s : (Int × Int × Int)} {r : (Int × Int)} (h : loopT (t_comb_behind_L0 k0 k1) bigN s = some r) : LK env [] 0 [1, 6, 7, 11, 12] c64_L0 (some (t_comb_behind_L0_st k0 k1 s)) = some (t_comb_behind_L0_out k0 k1 r) := loop_walk (st := t_comb_behind_L0_st k0 k1) (out := t_comb_behind_L0_out k0 k1) (by
  clear h s r
  rintro ⟨s0, s1, s2⟩ x h
  simp only [t_comb_behind_L0] at h
  by_cases c1 : (ilt s2 4) = true
  · rw [if_pos c1] at h
    by_cases h3 : inB s2 4 = true
    · rw [if_pos h3] at h
      have f2 := @idx_in 4 s2 h3 1 false [.int .i64 k1.a0, .int .i64 k1.a1, .int .i64 k1.a2, .int .i64 k1.a3]
      have f2b := @pack_A4 _ _ e_i64 _ k1 _ h3 [] [] (by decide) false
      simp only [A4.toL, cellsE, List.flatMap_cons, List.flatMap_nil, List.append_assoc, List.nil_append, List.cons_append, List.append_nil, List.length_cons, List.length_nil, Nat.zero_add, e_i64] at f2b
      by_cases c4 : (band (ige k0 0) (ine s2 k0)) = true
      · rw [if_pos c4] at h
        by_cases c5 : (ilt (iadd .i64 (A4.get k1 s2) 1) s0) = true
        · rw [if_pos c5] at h
          cases h
          show LK env [] 0 [1, 6, 7, 11, 12] c64_L0 (some (t_comb_behind_L0_st _ _ _)) = LK env [] 0 [1, 6, 7, 11, 12] c64_L0 (some (t_comb_behind_L0_st _ _ _))
          simp only [t_comb_behind_L0_st]
          rw [LK_step]
          rcases tof (ige k0 0) with a6 | a6
          · rcases tof (ine s2 k0) with a7 | a7
            · simp (maxSteps := 4000000) [c1, a6, a7, c5, f2, f2b, e_a4_i64, e_i64, e_sl_api_Row, e_sl_api_Run, e_additiveref34_seen, e_api_Cell, e_api_Region, e_api_Row, e_api_Run, e_comb_state, ↓c64_L0_u, c64_0, c64_1, c64_2, c64_3, c64_4, c64_5, c64_6, c64_7, c64_8, c64_9, c64_11]
            · simp [c1, a6, a7] at c4
          · simp [c1, a6] at c4
        · rw [if_neg c5] at h
          rw [Bool.not_eq_true] at c5
          cases h
          show LK env [] 0 [1, 6, 7, 11, 12] c64_L0 (some (t_comb_behind_L0_st _ _ _)) = LK env [] 0 [1, 6, 7, 11, 12] c64_L0 (some (t_comb_behind_L0_st _ _ _))
          simp only [t_comb_behind_L0_st]
          rw [LK_step]
          rcases tof (ige k0 0) with a8 | a8
          · rcases tof (ine s2 k0) with a9 | a9
            · simp (maxSteps := 4000000) [c1, a8, a9, c5, f2, f2b, e_a4_i64, e_i64, e_sl_api_Row, e_sl_api_Run, e_additiveref34_seen, e_api_Cell, e_api_Region, e_api_Row, e_api_Run, e_comb_state, ↓c64_L0_u, c64_0, c64_1, c64_2, c64_3, c64_4, c64_5, c64_6, c64_7, c64_8, c64_9, c64_11]
            · simp [c1, a8, a9] at c4
          · simp [c1, a8] at c4
      · rw [if_neg c4] at h
        rw [Bool.not_eq_true] at c4
        by_cases c10 : (ilt (A4.get k1 s2) s0) = true
        · rw [if_pos c10] at h
          cases h
          show LK env [] 0 [1, 6, 7, 11, 12] c64_L0 (some (t_comb_behind_L0_st _ _ _)) = LK env [] 0 [1, 6, 7, 11, 12] c64_L0 (some (t_comb_behind_L0_st _ _ _))
          simp only [t_comb_behind_L0_st]
          rw [LK_step]
          rcases tof (ige k0 0) with a11 | a11
          · rcases tof (ine s2 k0) with a12 | a12
            · simp [c1, a11, a12] at c4
            · simp (maxSteps := 4000000) [c1, a11, a12, c10, f2, f2b, e_a4_i64, e_i64, e_sl_api_Row, e_sl_api_Run, e_additiveref34_seen, e_api_Cell, e_api_Region, e_api_Row, e_api_Run, e_comb_state, ↓c64_L0_u, c64_0, c64_1, c64_2, c64_3, c64_4, c64_5, c64_6, c64_7, c64_8, c64_9, c64_11]
          · simp (maxSteps := 4000000) [c1, a11, c10, f2, f2b, e_a4_i64, e_i64, e_sl_api_Row, e_sl_api_Run, e_additiveref34_seen, e_api_Cell, e_api_Region, e_api_Row, e_api_Run, e_comb_state, ↓c64_L0_u, c64_0, c64_1, c64_2, c64_3, c64_4, c64_5, c64_6, c64_7, c64_8, c64_9, c64_11]
        · rw [if_neg c10] at h
          rw [Bool.not_eq_true] at c10
          cases h
          show LK env [] 0 [1, 6, 7, 11, 12] c64_L0 (some (t_comb_behind_L0_st _ _ _)) = LK env [] 0 [1, 6, 7, 11, 12] c64_L0 (some (t_comb_behind_L0_st _ _ _))
          simp only [t_comb_behind_L0_st]
          rw [LK_step]
          rcases tof (ige k0 0) with a13 | a13
          · rcases tof (ine s2 k0) with a14 | a14
            · simp [c1, a13, a14] at c4
            · simp (maxSteps := 4000000) [c1, a13, a14, c10, f2, f2b, e_a4_i64, e_i64, e_sl_api_Row, e_sl_api_Run, e_additiveref34_seen, e_api_Cell, e_api_Region, e_api_Row, e_api_Run, e_comb_state, ↓c64_L0_u, c64_0, c64_1, c64_2, c64_3, c64_4, c64_5, c64_6, c64_7, c64_8, c64_9, c64_11]
          · simp (maxSteps := 4000000) [c1, a13, c10, f2, f2b, e_a4_i64, e_i64, e_sl_api_Row, e_sl_api_Run, e_additiveref34_seen, e_api_Cell, e_api_Region, e_api_Row, e_api_Run, e_comb_state, ↓c64_L0_u, c64_0, c64_1, c64_2, c64_3, c64_4, c64_5, c64_6, c64_7, c64_8, c64_9, c64_11]
    · rw [if_neg h3] at h; cases h
  · rw [if_neg c1] at h
    rw [Bool.not_eq_true] at c1
    cases h
    show LK env [] 0 [1, 6, 7, 11, 12] c64_L0 (some (t_comb_behind_L0_st _ _ _)) = some (t_comb_behind_L0_out _ _ _)
    simp only [t_comb_behind_L0_st, t_comb_behind_L0_out]
    rw [LK_step]
    simp (maxSteps := 4000000) [c1, e_a4_i64, e_i64, e_sl_api_Row, e_sl_api_Run, e_additiveref34_seen, e_api_Cell, e_api_Region, e_api_Row, e_api_Run, e_comb_state, ↓c64_L0_u, c64_0, c64_1, c64_2, c64_3, c64_4, c64_5, c64_6, c64_7, c64_8, c64_9, c64_11]) bigN s r h
def t_comb_behind (p0 : comb_state) (p1 : Int) : Option (Int × Int) := (match loopT (t_comb_behind_L0 p1 p0.turns) bigN (1099511627776, 0, 0) with
 | none => none
 | some v8 => some (v8.1, v8.2))
theorem t_comb_behind_ok {p0 : comb_state} {p1 : Int} {r : (Int × Int)} (h : t_comb_behind p0 p1 = some r) : FC env 64 [.agg [.int .i64 p0.length, .int .i64 p0.turns.a0, .int .i64 p0.turns.a1, .int .i64 p0.turns.a2, .int .i64 p0.turns.a3], .int .i64 p1] none = some (.tup [.int .i64 r.1, .int .i64 r.2], fun _ => none) := by
  unfold t_comb_behind at h
  cases h15 : loopT (t_comb_behind_L0 p1 p0.turns) bigN (1099511627776, 0, 0) with
  | none => (rw [h15] at h; cases h)
  | some v16 =>
    simp only [h15] at h
    have f17 := t_comb_behind_L0_ok h15
    simp only [t_comb_behind_L0_st, t_comb_behind_L0_out, fset_len] at f17
    try simp only [fcase_nil, fcase_lst, fcase_fsnoc, fcase_fapp, fcase_fset, fcase_frep, fcase_flit, fcase_flst] at f17
    cases h
    refine FC_pure (lf := lf64) rfl rfl rfl ?_
    simp only [lf64, lc64, c64_0, c64_1, c64_2, c64_3, c64_4, c64_5, c64_6, c64_7, c64_8, c64_9, c64_11]
    simp (maxSteps := 4000000) [f17, e_a4_i64, e_i64, e_sl_api_Row, e_sl_api_Run, e_additiveref34_seen, e_api_Cell, e_api_Region, e_api_Row, e_api_Run, e_comb_state, ↓c64_L0_u, snap_tupE, tupS, snap7_int, snap7_bool, snap7_str, snap7_nils, snap7_agg]

/-! comb.examined -/
theorem c63_L0_u (Γ : Env) (ps : List Nat) (σ : St) : EC Γ ps 0 c63_L0 σ = EC Γ ps 0 (.seq (.reg false c63_8) (.seq (.cond (.t 35) .skip (.seq (.trim [3, 4, 5, 7, 8, 9, 10]) (.exit 2))) (.seq (.blk 3 (.seq (.reg false c63_9) (.seq (.reg false c63_10) (.seq (.reg false c63_11) (.seq (.seq (.reg false c63_12) (.cond (.t 61) (.seq (.reg false c63_13) (.reg false c63_14)) .skip)) (.seq (.seq (.reg false c63_15) (.cond (.t 74) (.exit 3) .skip)) (.seq (.reg false c63_16) (.seq (.reg false c63_17) (.cond (.t 86) (.seq (.reg false c63_18) (.seq (.reg false c63_19) (.cond (.t 92) (.reg false c63_20) .skip))) .skip))))))))) (.reg false c63_21)))) σ := rfl
theorem c63_L1_u (Γ : Env) (ps : List Nat) (σ : St) : EC Γ ps 0 c63_L1 σ = EC Γ ps 0 (.seq (.seq (.reg false c63_3) (.cond (.t 24) .skip (.seq (.trim [7]) (.exit 0)))) (.blk 1 (.seq (.reg false c63_4) (.seq (.reg false c63_5) (.seq (.reg false c63_6) (.seq (.seq (.reg false c63_7) (.blk 2 (.loop [3, 4, 5, 7, 8, 9, 10, 33, 34] c63_L0))) (.seq (.reg false c63_23) (.seq (.reg false c63_24) (.cond (.t 108) (.seq (.trim [7]) (.exit 0)) .skip))))))))) σ := rfl
def t_comb_examined_L0 (k0 : api_Region) (k1 : api_Cell) (k2 : api_Cell) (k3 : api_Cell) (k4 : (A4 api_Cell)) (s : ((List (api_Cell × comb_state)) × (FS api_Cell) × comb_state × Int)) : Option (LR ((List (api_Cell × comb_state)) × (FS api_Cell) × comb_state × Int) (comb_state × (List (api_Cell × comb_state)) × (FS api_Cell))) := match s with
 | (s0, s1, s2, s3) => (if (ilt s3 4) = true then (if inB s3 4 = true then (match gOpt (bnot (mhas q_api_Cell s0 (⟨(iadd .i64 k3.X (((A4.get k4 s3)).X)), (iadd .i64 k3.Y (((A4.get k4 s3)).Y))⟩ : api_Cell))) (t_region_Contains k0 (⟨(iadd .i64 k3.X (((A4.get k4 s3)).X)), (iadd .i64 k3.Y (((A4.get k4 s3)).Y))⟩ : api_Cell)) with
 | none => none
 | some v24 => (if (band (bnot (mhas q_api_Cell s0 (⟨(iadd .i64 k3.X (((A4.get k4 s3)).X)), (iadd .i64 k3.Y (((A4.get k4 s3)).Y))⟩ : api_Cell))) (v24.getD false)) = true then (if fits 16 ((flen s1) + 1) = true then (if (band (ieq k3.X k2.X) (band (ieq k3.Y k2.Y) true)) = true then some (.nx ((mset q_api_Cell s0 (⟨(iadd .i64 k3.X (((A4.get k4 s3)).X)), (iadd .i64 k3.Y (((A4.get k4 s3)).Y))⟩ : api_Cell) (⟨(iadd .i64 s2.length 1), (⟨0, 0, 0, 0⟩ : (A4 Int))⟩ : comb_state)), (fsnoc s1 (⟨(iadd .i64 k3.X (((A4.get k4 s3)).X)), (iadd .i64 k3.Y (((A4.get k4 s3)).Y))⟩ : api_Cell)), s2, (iadd .i64 s3 1)))
 else (if inB s3 4 = true then (if (band (mhas q_api_Cell s0 (⟨(iadd .i64 k3.X (((A4.get k4 s3)).X)), (iadd .i64 k3.Y (((A4.get k4 s3)).Y))⟩ : api_Cell)) (ieq (((mget q_api_Cell s0 (⟨(iadd .i64 k3.X (((A4.get k4 s3)).X)), (iadd .i64 k3.Y (((A4.get k4 s3)).Y))⟩ : api_Cell) (⟨0, (⟨0, 0, 0, 0⟩ : (A4 Int))⟩ : comb_state))).length) (isub .i64 s2.length 1))) = true then (if inB s3 4 = true then (if (bnot (band (ieq (iadd .i64 k3.X (((A4.get k4 s3)).X)) k2.X) (band (ieq (iadd .i64 k3.Y (((A4.get k4 s3)).Y)) k2.Y) true))) = true then (match t_comb_behind (mget q_api_Cell s0 (⟨(iadd .i64 k3.X (((A4.get k4 s3)).X)), (iadd .i64 k3.Y (((A4.get k4 s3)).Y))⟩ : api_Cell) (⟨0, (⟨0, 0, 0, 0⟩ : (A4 Int))⟩ : comb_state)) s3 with
 | none => none
 | some v40 => (if inB s3 4 = true then some (.nx ((mset q_api_Cell s0 (⟨(iadd .i64 k3.X (((A4.get k4 s3)).X)), (iadd .i64 k3.Y (((A4.get k4 s3)).Y))⟩ : api_Cell) (⟨(iadd .i64 s2.length 1), (⟨0, 0, 0, 0⟩ : (A4 Int))⟩ : comb_state)), (fsnoc s1 (⟨(iadd .i64 k3.X (((A4.get k4 s3)).X)), (iadd .i64 k3.Y (((A4.get k4 s3)).Y))⟩ : api_Cell)), (⟨s2.length, (A4.set (A4.set (A4.set s2.turns s3 1099511627776) s3 0) s3 v40.1)⟩ : comb_state), (iadd .i64 s3 1))) else none))
 else some (.nx ((mset q_api_Cell s0 (⟨(iadd .i64 k3.X (((A4.get k4 s3)).X)), (iadd .i64 k3.Y (((A4.get k4 s3)).Y))⟩ : api_Cell) (⟨(iadd .i64 s2.length 1), (⟨0, 0, 0, 0⟩ : (A4 Int))⟩ : comb_state)), (fsnoc s1 (⟨(iadd .i64 k3.X (((A4.get k4 s3)).X)), (iadd .i64 k3.Y (((A4.get k4 s3)).Y))⟩ : api_Cell)), (⟨s2.length, (A4.set (A4.set s2.turns s3 1099511627776) s3 0)⟩ : comb_state), (iadd .i64 s3 1)))) else none)
 else some (.nx ((mset q_api_Cell s0 (⟨(iadd .i64 k3.X (((A4.get k4 s3)).X)), (iadd .i64 k3.Y (((A4.get k4 s3)).Y))⟩ : api_Cell) (⟨(iadd .i64 s2.length 1), (⟨0, 0, 0, 0⟩ : (A4 Int))⟩ : comb_state)), (fsnoc s1 (⟨(iadd .i64 k3.X (((A4.get k4 s3)).X)), (iadd .i64 k3.Y (((A4.get k4 s3)).Y))⟩ : api_Cell)), (⟨s2.length, (A4.set s2.turns s3 1099511627776)⟩ : comb_state), (iadd .i64 s3 1)))) else none)) else none)
 else (if (band (ieq k3.X k2.X) (band (ieq k3.Y k2.Y) true)) = true then some (.nx (s0, s1, s2, (iadd .i64 s3 1)))
 else (if inB s3 4 = true then (if (band (mhas q_api_Cell s0 (⟨(iadd .i64 k3.X (((A4.get k4 s3)).X)), (iadd .i64 k3.Y (((A4.get k4 s3)).Y))⟩ : api_Cell)) (ieq (((mget q_api_Cell s0 (⟨(iadd .i64 k3.X (((A4.get k4 s3)).X)), (iadd .i64 k3.Y (((A4.get k4 s3)).Y))⟩ : api_Cell) (⟨0, (⟨0, 0, 0, 0⟩ : (A4 Int))⟩ : comb_state))).length) (isub .i64 s2.length 1))) = true then (if inB s3 4 = true then (if (bnot (band (ieq (iadd .i64 k3.X (((A4.get k4 s3)).X)) k2.X) (band (ieq (iadd .i64 k3.Y (((A4.get k4 s3)).Y)) k2.Y) true))) = true then (match t_comb_behind (mget q_api_Cell s0 (⟨(iadd .i64 k3.X (((A4.get k4 s3)).X)), (iadd .i64 k3.Y (((A4.get k4 s3)).Y))⟩ : api_Cell) (⟨0, (⟨0, 0, 0, 0⟩ : (A4 Int))⟩ : comb_state)) s3 with
 | none => none
 | some v55 => (if inB s3 4 = true then some (.nx (s0, s1, (⟨s2.length, (A4.set (A4.set (A4.set s2.turns s3 1099511627776) s3 0) s3 v55.1)⟩ : comb_state), (iadd .i64 s3 1))) else none))
 else some (.nx (s0, s1, (⟨s2.length, (A4.set (A4.set s2.turns s3 1099511627776) s3 0)⟩ : comb_state), (iadd .i64 s3 1)))) else none)
 else some (.nx (s0, s1, (⟨s2.length, (A4.set s2.turns s3 1099511627776)⟩ : comb_state), (iadd .i64 s3 1)))) else none)))) else none)
 else some (.dn (s2, s0, s1)))
def t_comb_examined_L0_st (k0 : api_Region) (k1 : api_Cell) (k2 : api_Cell) (k3 : api_Cell) (k4 : (A4 api_Cell)) (s : ((List (api_Cell × comb_state)) × (FS api_Cell) × comb_state × Int)) : St := match s with
 | (s0, s1, s2, s3) => ⟨fr [(3, .ptr 3 0 0), (4, .ptr 4 0 0), (5, .ptr 5 0 0), (7, .map 7 0), (8, .arr 8 0 0 s1.l.length), (9, .ptr 9 0 0), (10, .ptr 10 0 0), (33, .agg [.int .i64 k4.a0.X, .int .i64 k4.a0.Y, .int .i64 k4.a1.X, .int .i64 k4.a1.Y, .int .i64 k4.a2.X, .int .i64 k4.a2.Y, .int .i64 k4.a3.X, .int .i64 k4.a3.Y]), (34, .int .i64 s3)], hl [(3, .box 0 [encF e_api_Row k0.Rows]), (4, .box 0 [.int .i64 k1.X, .int .i64 k1.Y]), (5, .box 0 [.int .i64 k2.X, .int .i64 k2.Y]), (7, .map 0 (encM k_api_Cell v_comb_state s0) false), (8, .arr 0 2 26 (cellsE e_api_Cell s1.l) false), (9, .box 0 [.int .i64 k3.X, .int .i64 k3.Y]), (10, .box 0 [.int .i64 s2.length, .int .i64 s2.turns.a0, .int .i64 s2.turns.a1, .int .i64 s2.turns.a2, .int .i64 s2.turns.a3])]⟩
def t_comb_examined_L0_out (k0 : api_Region) (k1 : api_Cell) (k2 : api_Cell) (k3 : api_Cell) (k4 : (A4 api_Cell)) (x : (comb_state × (List (api_Cell × comb_state)) × (FS api_Cell))) : LE × St := (.exit 2, ⟨fr [(3, .ptr 3 0 0), (4, .ptr 4 0 0), (5, .ptr 5 0 0), (7, .map 7 0), (8, .arr 8 0 0 x.2.2.l.length), (9, .ptr 9 0 0), (10, .ptr 10 0 0)], hl [(3, .box 0 [encF e_api_Row k0.Rows]), (4, .box 0 [.int .i64 k1.X, .int .i64 k1.Y]), (5, .box 0 [.int .i64 k2.X, .int .i64 k2.Y]), (7, .map 0 (encM k_api_Cell v_comb_state x.2.1) false), (8, .arr 0 2 26 (cellsE e_api_Cell x.2.2.l) false), (9, .box 0 [.int .i64 k3.X, .int .i64 k3.Y]), (10, .box 0 [.int .i64 x.1.length, .int .i64 x.1.turns.a0, .int .i64 x.1.turns.a1, .int .i64 x.1.turns.a2, .int .i64 x.1.turns.a3])]⟩)
theorem t_comb_examined_L0_ok {k0 : api_Region} {k1 : api_Cell} {k2 : api_Cell} {k3 : api_Cell} {k4 : (A4 api_Cell)} {s : ((List (api_Cell × comb_state)) × (FS api_Cell) × comb_state × Int)} {r : (comb_state × (List (api_Cell × comb_state)) × (FS api_Cell))} (h : loopT (t_comb_examined_L0 k0 k1 k2 k3 k4) bigN s = some r) : LK env [] 0 [3, 4, 5, 7, 8, 9, 10, 33, 34] c63_L0 (some (t_comb_examined_L0_st k0 k1 k2 k3 k4 s)) = some (t_comb_examined_L0_out k0 k1 k2 k3 k4 r) := loop_walk (st := t_comb_examined_L0_st k0 k1 k2 k3 k4) (out := t_comb_examined_L0_out k0 k1 k2 k3 k4) (by
  clear h s r
  rintro ⟨s0, s1, s2, s3⟩ x h
  simp only [t_comb_examined_L0] at h
  by_cases c18 : (ilt s3 4) = true
  · rw [if_pos c18] at h
    by_cases h20 : inB s3 4 = true
    · rw [if_pos h20] at h
      have f19 := @idx_in 4 s3 h20 2 true [.int .i64 k4.a0.X, .int .i64 k4.a0.Y, .int .i64 k4.a1.X, .int .i64 k4.a1.Y, .int .i64 k4.a2.X, .int .i64 k4.a2.Y, .int .i64 k4.a3.X, .int .i64 k4.a3.Y]
      have f19b := @pack_A4 _ _ e_api_Cell _ k4 _ h20 [] [] (by decide) true
      simp only [A4.toL, cellsE, List.flatMap_cons, List.flatMap_nil, List.append_assoc, List.nil_append, List.cons_append, List.append_nil, List.length_cons, List.length_nil, Nat.zero_add, e_api_Cell] at f19b
      have f21 := look_encOk (ek := k_api_Cell) (ev := v_comb_state) s0 (⟨(iadd .i64 k3.X (((A4.get k4 s3)).X)), (iadd .i64 k3.Y (((A4.get k4 s3)).Y))⟩ : api_Cell) (⟨0, (⟨0, 0, 0, 0⟩ : (A4 Int))⟩ : comb_state)
      simp only [k_api_Cell, v_comb_state] at f21
      cases h23 : gOpt (bnot (mhas q_api_Cell s0 (⟨(iadd .i64 k3.X (((A4.get k4 s3)).X)), (iadd .i64 k3.Y (((A4.get k4 s3)).Y))⟩ : api_Cell))) (t_region_Contains k0 (⟨(iadd .i64 k3.X (((A4.get k4 s3)).X)), (iadd .i64 k3.Y (((A4.get k4 s3)).Y))⟩ : api_Cell)) with
      | none => (rw [h23] at h; cases h)
      | some v24 =>
        simp only [h23] at h
        have f22 := fun (q0 : (bnot (mhas q_api_Cell s0 (⟨(iadd .i64 k3.X (((A4.get k4 s3)).X)), (iadd .i64 k3.Y (((A4.get k4 s3)).Y))⟩ : api_Cell))) = true) => t_region_Contains_ok (gOpt_getD false h23 q0)
        by_cases c25 : (band (bnot (mhas q_api_Cell s0 (⟨(iadd .i64 k3.X (((A4.get k4 s3)).X)), (iadd .i64 k3.Y (((A4.get k4 s3)).Y))⟩ : api_Cell))) (v24.getD false)) = true
        · rw [if_pos c25] at h
          have f26 := fun (H : Heap) hg => set_enc (ek := k_api_Cell) (ev := v_comb_state) (h := H) (g := 7) (ver := 0) (es := s0) hg (⟨(iadd .i64 k3.X (((A4.get k4 s3)).X)), (iadd .i64 k3.Y (((A4.get k4 s3)).Y))⟩ : api_Cell) (⟨(iadd .i64 s2.length 1), (⟨0, 0, 0, 0⟩ : (A4 Int))⟩ : comb_state)
          simp only [k_api_Cell, v_comb_state] at f26
          by_cases h28 : fits 16 ((flen s1) + 1) = true
          · rw [if_pos h28] at h
            have f27 := fun g0 H y => @app_row1 _ _ e_api_Cell _ s1 (⟨(iadd .i64 k3.X (((A4.get k4 s3)).X)), (iadd .i64 k3.Y (((A4.get k4 s3)).Y))⟩ : api_Cell) 16 h28 (by decide) g0 H 8 0 26 y
            simp only [e_api_Cell] at f27
            by_cases c29 : (band (ieq k3.X k2.X) (band (ieq k3.Y k2.Y) true)) = true
            · rw [if_pos c29] at h
              cases h
              show LK env [] 0 [3, 4, 5, 7, 8, 9, 10, 33, 34] c63_L0 (some (t_comb_examined_L0_st _ _ _ _ _ _)) = LK env [] 0 [3, 4, 5, 7, 8, 9, 10, 33, 34] c63_L0 (some (t_comb_examined_L0_st _ _ _ _ _ _))
              simp only [t_comb_examined_L0_st]
              rw [LK_step]
              rcases tof (mhas q_api_Cell s0 (⟨(iadd .i64 k3.X (((A4.get k4 s3)).X)), (iadd .i64 k3.Y (((A4.get k4 s3)).Y))⟩ : api_Cell)) with a30 | a30
              · simp [c18, a30] at c25
              · rcases tof (v24.getD false) with a31 | a31
                · rcases tof (ieq k3.X k2.X) with a32 | a32
                  · rcases tof (ieq k3.Y k2.Y) with a33 | a33
                    · simp (maxSteps := 4000000) [c18, a30, a31, a32, a33, f19, f19b, f21, esOf_map, f22, f26, f27, e_a4_i64, e_i64, e_sl_api_Row, e_sl_api_Run, e_additiveref34_seen, e_api_Cell, e_api_Region, e_api_Row, e_api_Run, e_comb_state, ↓c63_L0_u, ↓c63_L1_u, c63_0, c63_1, c63_2, c63_3, c63_4, c63_5, c63_6, c63_7, c63_8, c63_9, c63_10, c63_11, c63_12, c63_13, c63_14, c63_15, c63_16, c63_17, c63_18, c63_19, c63_20, c63_21, c63_23, c63_24, c63_26]
                    · simp [c18, a30, a31, a32, a33] at c29
                  · simp [c18, a30, a31, a32] at c29
                · simp [c18, a30, a31] at c25
            · rw [if_neg c29] at h
              rw [Bool.not_eq_true] at c29
              by_cases h35 : inB s3 4 = true
              · rw [if_pos h35] at h
                have f34 := iaddrA_off h35
                have f36 := @paste_A4 _ _ e_i64 _ s2.turns _ h35 [.int .i64 s2.length] [] 1099511627776
                simp only [A4.toL, cellsE, List.flatMap_cons, List.flatMap_nil, List.append_assoc, List.nil_append, List.cons_append, List.append_nil, List.length_cons, List.length_nil, Nat.zero_add, e_i64] at f36
                have f36b := aOff_in h35 1 1
                by_cases c37 : (band (mhas q_api_Cell s0 (⟨(iadd .i64 k3.X (((A4.get k4 s3)).X)), (iadd .i64 k3.Y (((A4.get k4 s3)).Y))⟩ : api_Cell)) (ieq (((mget q_api_Cell s0 (⟨(iadd .i64 k3.X (((A4.get k4 s3)).X)), (iadd .i64 k3.Y (((A4.get k4 s3)).Y))⟩ : api_Cell) (⟨0, (⟨0, 0, 0, 0⟩ : (A4 Int))⟩ : comb_state))).length) (isub .i64 s2.length 1))) = true
                · rw [if_pos c37] at h
                  by_cases h39 : inB s3 4 = true
                  · rw [if_pos h39] at h
                    have f38 := iaddrA_off h39
                    have f40 := @paste_A4 _ _ e_i64 _ (A4.set s2.turns s3 1099511627776) _ h39 [.int .i64 s2.length] [] 0
                    simp only [A4.toL, cellsE, List.flatMap_cons, List.flatMap_nil, List.append_assoc, List.nil_append, List.cons_append, List.append_nil, List.length_cons, List.length_nil, Nat.zero_add, e_i64] at f40
                    have f40b := aOff_in h39 1 1
                    by_cases c41 : (bnot (band (ieq (iadd .i64 k3.X (((A4.get k4 s3)).X)) k2.X) (band (ieq (iadd .i64 k3.Y (((A4.get k4 s3)).Y)) k2.Y) true))) = true
                    · rw [if_pos c41] at h
                      cases h43 : t_comb_behind (mget q_api_Cell s0 (⟨(iadd .i64 k3.X (((A4.get k4 s3)).X)), (iadd .i64 k3.Y (((A4.get k4 s3)).Y))⟩ : api_Cell) (⟨0, (⟨0, 0, 0, 0⟩ : (A4 Int))⟩ : comb_state)) s3 with
                      | none => (rw [h43] at h; cases h)
                      | some v44 =>
                        simp only [h43] at h
                        have f42 := t_comb_behind_ok h43
                        by_cases h46 : inB s3 4 = true
                        · rw [if_pos h46] at h
                          have f45 := iaddrA_off h46
                          have f47 := @paste_A4 _ _ e_i64 _ (A4.set (A4.set s2.turns s3 1099511627776) s3 0) _ h46 [.int .i64 s2.length] [] v44.1
                          simp only [A4.toL, cellsE, List.flatMap_cons, List.flatMap_nil, List.append_assoc, List.nil_append, List.cons_append, List.append_nil, List.length_cons, List.length_nil, Nat.zero_add, e_i64] at f47
                          have f47b := aOff_in h46 1 1
                          cases h
                          show LK env [] 0 [3, 4, 5, 7, 8, 9, 10, 33, 34] c63_L0 (some (t_comb_examined_L0_st _ _ _ _ _ _)) = LK env [] 0 [3, 4, 5, 7, 8, 9, 10, 33, 34] c63_L0 (some (t_comb_examined_L0_st _ _ _ _ _ _))
                          simp only [t_comb_examined_L0_st]
                          rw [LK_step]
                          rcases tof (mhas q_api_Cell s0 (⟨(iadd .i64 k3.X (((A4.get k4 s3)).X)), (iadd .i64 k3.Y (((A4.get k4 s3)).Y))⟩ : api_Cell)) with a48 | a48
                          · simp [c18, a48] at c25
                          · rcases tof (v24.getD false) with a49 | a49
                            · rcases tof (ieq k3.X k2.X) with a50 | a50
                              · rcases tof (ieq k3.Y k2.Y) with a51 | a51
                                · simp [c18, a48, a49, a50, a51] at c29
                                · simp [c18, a48, a49, a50, a51] at c37
                              · simp [c18, a48, a49, a50] at c37
                            · simp [c18, a48, a49] at c25
                        · rw [if_neg h46] at h; cases h
                    · rw [if_neg c41] at h
                      rw [Bool.not_eq_true] at c41
                      cases h
                      show LK env [] 0 [3, 4, 5, 7, 8, 9, 10, 33, 34] c63_L0 (some (t_comb_examined_L0_st _ _ _ _ _ _)) = LK env [] 0 [3, 4, 5, 7, 8, 9, 10, 33, 34] c63_L0 (some (t_comb_examined_L0_st _ _ _ _ _ _))
                      simp only [t_comb_examined_L0_st]
                      rw [LK_step]
                      rcases tof (mhas q_api_Cell s0 (⟨(iadd .i64 k3.X (((A4.get k4 s3)).X)), (iadd .i64 k3.Y (((A4.get k4 s3)).Y))⟩ : api_Cell)) with a52 | a52
                      · simp [c18, a52] at c25
                      · rcases tof (v24.getD false) with a53 | a53
                        · rcases tof (ieq k3.X k2.X) with a54 | a54
                          · rcases tof (ieq k3.Y k2.Y) with a55 | a55
                            · simp [c18, a52, a53, a54, a55] at c29
                            · simp [c18, a52, a53, a54, a55] at c37
                          · simp [c18, a52, a53, a54] at c37
                        · simp [c18, a52, a53] at c25
                  · rw [if_neg h39] at h; cases h
                · rw [if_neg c37] at h
                  rw [Bool.not_eq_true] at c37
                  cases h
                  show LK env [] 0 [3, 4, 5, 7, 8, 9, 10, 33, 34] c63_L0 (some (t_comb_examined_L0_st _ _ _ _ _ _)) = LK env [] 0 [3, 4, 5, 7, 8, 9, 10, 33, 34] c63_L0 (some (t_comb_examined_L0_st _ _ _ _ _ _))
                  simp only [t_comb_examined_L0_st]
                  rw [LK_step]
                  rcases tof (mhas q_api_Cell s0 (⟨(iadd .i64 k3.X (((A4.get k4 s3)).X)), (iadd .i64 k3.Y (((A4.get k4 s3)).Y))⟩ : api_Cell)) with a56 | a56
                  · simp [c18, a56] at c25
                  · rcases tof (v24.getD false) with a57 | a57
                    · rcases tof (ieq k3.X k2.X) with a58 | a58
                      · rcases tof (ieq k3.Y k2.Y) with a59 | a59
                        · simp [c18, a56, a57, a58, a59] at c29
                        · simp (maxSteps := 4000000) [c18, a56, a57, a58, a59, f19, f19b, f21, esOf_map, f22, f26, f27, f34, f36, f36b, e_a4_i64, e_i64, e_sl_api_Row, e_sl_api_Run, e_additiveref34_seen, e_api_Cell, e_api_Region, e_api_Row, e_api_Run, e_comb_state, ↓c63_L0_u, ↓c63_L1_u, c63_0, c63_1, c63_2, c63_3, c63_4, c63_5, c63_6, c63_7, c63_8, c63_9, c63_10, c63_11, c63_12, c63_13, c63_14, c63_15, c63_16, c63_17, c63_18, c63_19, c63_20, c63_21, c63_23, c63_24, c63_26]
                      · simp (maxSteps := 4000000) [c18, a56, a57, a58, f19, f19b, f21, esOf_map, f22, f26, f27, f34, f36, f36b, e_a4_i64, e_i64, e_sl_api_Row, e_sl_api_Run, e_additiveref34_seen, e_api_Cell, e_api_Region, e_api_Row, e_api_Run, e_comb_state, ↓c63_L0_u, ↓c63_L1_u, c63_0, c63_1, c63_2, c63_3, c63_4, c63_5, c63_6, c63_7, c63_8, c63_9, c63_10, c63_11, c63_12, c63_13, c63_14, c63_15, c63_16, c63_17, c63_18, c63_19, c63_20, c63_21, c63_23, c63_24, c63_26]
                    · simp [c18, a56, a57] at c25
              · rw [if_neg h35] at h; cases h
          · rw [if_neg h28] at h; cases h
        · rw [if_neg c25] at h
          rw [Bool.not_eq_true] at c25
          by_cases c60 : (band (ieq k3.X k2.X) (band (ieq k3.Y k2.Y) true)) = true
          · rw [if_pos c60] at h
            cases h
            show LK env [] 0 [3, 4, 5, 7, 8, 9, 10, 33, 34] c63_L0 (some (t_comb_examined_L0_st _ _ _ _ _ _)) = LK env [] 0 [3, 4, 5, 7, 8, 9, 10, 33, 34] c63_L0 (some (t_comb_examined_L0_st _ _ _ _ _ _))
            simp only [t_comb_examined_L0_st]
            rw [LK_step]
            rcases tof (mhas q_api_Cell s0 (⟨(iadd .i64 k3.X (((A4.get k4 s3)).X)), (iadd .i64 k3.Y (((A4.get k4 s3)).Y))⟩ : api_Cell)) with a61 | a61
            · rcases tof (ieq k3.X k2.X) with a62 | a62
              · rcases tof (ieq k3.Y k2.Y) with a63 | a63
                · simp (maxSteps := 4000000) [c18, a61, a62, a63, f19, f19b, f21, esOf_map, f22, e_a4_i64, e_i64, e_sl_api_Row, e_sl_api_Run, e_additiveref34_seen, e_api_Cell, e_api_Region, e_api_Row, e_api_Run, e_comb_state, ↓c63_L0_u, ↓c63_L1_u, c63_0, c63_1, c63_2, c63_3, c63_4, c63_5, c63_6, c63_7, c63_8, c63_9, c63_10, c63_11, c63_12, c63_13, c63_14, c63_15, c63_16, c63_17, c63_18, c63_19, c63_20, c63_21, c63_23, c63_24, c63_26]
                · simp [c18, a61, a62, a63] at c60
              · simp [c18, a61, a62] at c60
            · rcases tof (v24.getD false) with a64 | a64
              · simp [c18, a61, a64] at c25
              · rcases tof (ieq k3.X k2.X) with a65 | a65
                · rcases tof (ieq k3.Y k2.Y) with a66 | a66
                  · simp (maxSteps := 4000000) [c18, a61, a64, a65, a66, f19, f19b, f21, esOf_map, f22, e_a4_i64, e_i64, e_sl_api_Row, e_sl_api_Run, e_additiveref34_seen, e_api_Cell, e_api_Region, e_api_Row, e_api_Run, e_comb_state, ↓c63_L0_u, ↓c63_L1_u, c63_0, c63_1, c63_2, c63_3, c63_4, c63_5, c63_6, c63_7, c63_8, c63_9, c63_10, c63_11, c63_12, c63_13, c63_14, c63_15, c63_16, c63_17, c63_18, c63_19, c63_20, c63_21, c63_23, c63_24, c63_26]
                  · simp [c18, a61, a64, a65, a66] at c60
                · simp [c18, a61, a64, a65] at c60
          · rw [if_neg c60] at h
            rw [Bool.not_eq_true] at c60
            by_cases h68 : inB s3 4 = true
            · rw [if_pos h68] at h
              have f67 := iaddrA_off h68
              have f69 := @paste_A4 _ _ e_i64 _ s2.turns _ h68 [.int .i64 s2.length] [] 1099511627776
              simp only [A4.toL, cellsE, List.flatMap_cons, List.flatMap_nil, List.append_assoc, List.nil_append, List.cons_append, List.append_nil, List.length_cons, List.length_nil, Nat.zero_add, e_i64] at f69
              have f69b := aOff_in h68 1 1
              by_cases c70 : (band (mhas q_api_Cell s0 (⟨(iadd .i64 k3.X (((A4.get k4 s3)).X)), (iadd .i64 k3.Y (((A4.get k4 s3)).Y))⟩ : api_Cell)) (ieq (((mget q_api_Cell s0 (⟨(iadd .i64 k3.X (((A4.get k4 s3)).X)), (iadd .i64 k3.Y (((A4.get k4 s3)).Y))⟩ : api_Cell) (⟨0, (⟨0, 0, 0, 0⟩ : (A4 Int))⟩ : comb_state))).length) (isub .i64 s2.length 1))) = true
              · rw [if_pos c70] at h
                by_cases h72 : inB s3 4 = true
                · rw [if_pos h72] at h
                  have f71 := iaddrA_off h72
                  have f73 := @paste_A4 _ _ e_i64 _ (A4.set s2.turns s3 1099511627776) _ h72 [.int .i64 s2.length] [] 0
                  simp only [A4.toL, cellsE, List.flatMap_cons, List.flatMap_nil, List.append_assoc, List.nil_append, List.cons_append, List.append_nil, List.length_cons, List.length_nil, Nat.zero_add, e_i64] at f73
                  have f73b := aOff_in h72 1 1
                  by_cases c74 : (bnot (band (ieq (iadd .i64 k3.X (((A4.get k4 s3)).X)) k2.X) (band (ieq (iadd .i64 k3.Y (((A4.get k4 s3)).Y)) k2.Y) true))) = true
                  · rw [if_pos c74] at h
                    cases h76 : t_comb_behind (mget q_api_Cell s0 (⟨(iadd .i64 k3.X (((A4.get k4 s3)).X)), (iadd .i64 k3.Y (((A4.get k4 s3)).Y))⟩ : api_Cell) (⟨0, (⟨0, 0, 0, 0⟩ : (A4 Int))⟩ : comb_state)) s3 with
                    | none => (rw [h76] at h; cases h)
                    | some v77 =>
                      simp only [h76] at h
                      have f75 := t_comb_behind_ok h76
                      by_cases h79 : inB s3 4 = true
                      · rw [if_pos h79] at h
                        have f78 := iaddrA_off h79
                        have f80 := @paste_A4 _ _ e_i64 _ (A4.set (A4.set s2.turns s3 1099511627776) s3 0) _ h79 [.int .i64 s2.length] [] v77.1
                        simp only [A4.toL, cellsE, List.flatMap_cons, List.flatMap_nil, List.append_assoc, List.nil_append, List.cons_append, List.append_nil, List.length_cons, List.length_nil, Nat.zero_add, e_i64] at f80
                        have f80b := aOff_in h79 1 1
                        cases h
                        show LK env [] 0 [3, 4, 5, 7, 8, 9, 10, 33, 34] c63_L0 (some (t_comb_examined_L0_st _ _ _ _ _ _)) = LK env [] 0 [3, 4, 5, 7, 8, 9, 10, 33, 34] c63_L0 (some (t_comb_examined_L0_st _ _ _ _ _ _))
                        simp only [t_comb_examined_L0_st]
                        rw [LK_step]
                        rcases tof (mhas q_api_Cell s0 (⟨(iadd .i64 k3.X (((A4.get k4 s3)).X)), (iadd .i64 k3.Y (((A4.get k4 s3)).Y))⟩ : api_Cell)) with a81 | a81
                        · rcases tof (ieq k3.X k2.X) with a82 | a82
                          · rcases tof (ieq k3.Y k2.Y) with a83 | a83
                            · simp [c18, a81, a82, a83] at c60
                            · rcases tof (ieq (((mget q_api_Cell s0 (⟨(iadd .i64 k3.X (((A4.get k4 s3)).X)), (iadd .i64 k3.Y (((A4.get k4 s3)).Y))⟩ : api_Cell) (⟨0, (⟨0, 0, 0, 0⟩ : (A4 Int))⟩ : comb_state))).length) (isub .i64 s2.length 1)) with a84 | a84
                              · rcases tof (ieq (iadd .i64 k3.X (((A4.get k4 s3)).X)) k2.X) with a85 | a85
                                · rcases tof (ieq (iadd .i64 k3.Y (((A4.get k4 s3)).Y)) k2.Y) with a86 | a86
                                  · simp [c18, a81, a82, a83, a84, a85, a86] at c74
                                  · simp (maxSteps := 4000000) [c18, a81, a82, a83, a84, a85, a86, f19, f19b, f21, esOf_map, f22, f67, f69, f69b, f71, f73, f73b, f75, f78, f80, f80b, e_a4_i64, e_i64, e_sl_api_Row, e_sl_api_Run, e_additiveref34_seen, e_api_Cell, e_api_Region, e_api_Row, e_api_Run, e_comb_state, ↓c63_L0_u, ↓c63_L1_u, c63_0, c63_1, c63_2, c63_3, c63_4, c63_5, c63_6, c63_7, c63_8, c63_9, c63_10, c63_11, c63_12, c63_13, c63_14, c63_15, c63_16, c63_17, c63_18, c63_19, c63_20, c63_21, c63_23, c63_24, c63_26]
                                · simp (maxSteps := 4000000) [c18, a81, a82, a83, a84, a85, f19, f19b, f21, esOf_map, f22, f67, f69, f69b, f71, f73, f73b, f75, f78, f80, f80b, e_a4_i64, e_i64, e_sl_api_Row, e_sl_api_Run, e_additiveref34_seen, e_api_Cell, e_api_Region, e_api_Row, e_api_Run, e_comb_state, ↓c63_L0_u, ↓c63_L1_u, c63_0, c63_1, c63_2, c63_3, c63_4, c63_5, c63_6, c63_7, c63_8, c63_9, c63_10, c63_11, c63_12, c63_13, c63_14, c63_15, c63_16, c63_17, c63_18, c63_19, c63_20, c63_21, c63_23, c63_24, c63_26]
                              · simp [c18, a81, a82, a83, a84] at c70
                          · rcases tof (ieq (((mget q_api_Cell s0 (⟨(iadd .i64 k3.X (((A4.get k4 s3)).X)), (iadd .i64 k3.Y (((A4.get k4 s3)).Y))⟩ : api_Cell) (⟨0, (⟨0, 0, 0, 0⟩ : (A4 Int))⟩ : comb_state))).length) (isub .i64 s2.length 1)) with a87 | a87
                            · rcases tof (ieq (iadd .i64 k3.X (((A4.get k4 s3)).X)) k2.X) with a88 | a88
                              · rcases tof (ieq (iadd .i64 k3.Y (((A4.get k4 s3)).Y)) k2.Y) with a89 | a89
                                · simp [c18, a81, a82, a87, a88, a89] at c74
                                · simp (maxSteps := 4000000) [c18, a81, a82, a87, a88, a89, f19, f19b, f21, esOf_map, f22, f67, f69, f69b, f71, f73, f73b, f75, f78, f80, f80b, e_a4_i64, e_i64, e_sl_api_Row, e_sl_api_Run, e_additiveref34_seen, e_api_Cell, e_api_Region, e_api_Row, e_api_Run, e_comb_state, ↓c63_L0_u, ↓c63_L1_u, c63_0, c63_1, c63_2, c63_3, c63_4, c63_5, c63_6, c63_7, c63_8, c63_9, c63_10, c63_11, c63_12, c63_13, c63_14, c63_15, c63_16, c63_17, c63_18, c63_19, c63_20, c63_21, c63_23, c63_24, c63_26]
                              · simp (maxSteps := 4000000) [c18, a81, a82, a87, a88, f19, f19b, f21, esOf_map, f22, f67, f69, f69b, f71, f73, f73b, f75, f78, f80, f80b, e_a4_i64, e_i64, e_sl_api_Row, e_sl_api_Run, e_additiveref34_seen, e_api_Cell, e_api_Region, e_api_Row, e_api_Run, e_comb_state, ↓c63_L0_u, ↓c63_L1_u, c63_0, c63_1, c63_2, c63_3, c63_4, c63_5, c63_6, c63_7, c63_8, c63_9, c63_10, c63_11, c63_12, c63_13, c63_14, c63_15, c63_16, c63_17, c63_18, c63_19, c63_20, c63_21, c63_23, c63_24, c63_26]
                            · simp [c18, a81, a82, a87] at c70
                        · rcases tof (v24.getD false) with a90 | a90
                          · simp [c18, a81, a90] at c25
                          · rcases tof (ieq k3.X k2.X) with a91 | a91
                            · rcases tof (ieq k3.Y k2.Y) with a92 | a92
                              · simp [c18, a81, a90, a91, a92] at c60
                              · simp [c18, a81, a90, a91, a92] at c70
                            · simp [c18, a81, a90, a91] at c70
                      · rw [if_neg h79] at h; cases h
                  · rw [if_neg c74] at h
                    rw [Bool.not_eq_true] at c74
                    cases h
                    show LK env [] 0 [3, 4, 5, 7, 8, 9, 10, 33, 34] c63_L0 (some (t_comb_examined_L0_st _ _ _ _ _ _)) = LK env [] 0 [3, 4, 5, 7, 8, 9, 10, 33, 34] c63_L0 (some (t_comb_examined_L0_st _ _ _ _ _ _))
                    simp only [t_comb_examined_L0_st]
                    rw [LK_step]
                    rcases tof (mhas q_api_Cell s0 (⟨(iadd .i64 k3.X (((A4.get k4 s3)).X)), (iadd .i64 k3.Y (((A4.get k4 s3)).Y))⟩ : api_Cell)) with a93 | a93
                    · rcases tof (ieq k3.X k2.X) with a94 | a94
                      · rcases tof (ieq k3.Y k2.Y) with a95 | a95
                        · simp [c18, a93, a94, a95] at c60
                        · rcases tof (ieq (((mget q_api_Cell s0 (⟨(iadd .i64 k3.X (((A4.get k4 s3)).X)), (iadd .i64 k3.Y (((A4.get k4 s3)).Y))⟩ : api_Cell) (⟨0, (⟨0, 0, 0, 0⟩ : (A4 Int))⟩ : comb_state))).length) (isub .i64 s2.length 1)) with a96 | a96
                          · rcases tof (ieq (iadd .i64 k3.X (((A4.get k4 s3)).X)) k2.X) with a97 | a97
                            · rcases tof (ieq (iadd .i64 k3.Y (((A4.get k4 s3)).Y)) k2.Y) with a98 | a98
                              · simp (maxSteps := 4000000) [c18, a93, a94, a95, a96, a97, a98, f19, f19b, f21, esOf_map, f22, f67, f69, f69b, f71, f73, f73b, e_a4_i64, e_i64, e_sl_api_Row, e_sl_api_Run, e_additiveref34_seen, e_api_Cell, e_api_Region, e_api_Row, e_api_Run, e_comb_state, ↓c63_L0_u, ↓c63_L1_u, c63_0, c63_1, c63_2, c63_3, c63_4, c63_5, c63_6, c63_7, c63_8, c63_9, c63_10, c63_11, c63_12, c63_13, c63_14, c63_15, c63_16, c63_17, c63_18, c63_19, c63_20, c63_21, c63_23, c63_24, c63_26]
                              · simp [c18, a93, a94, a95, a96, a97, a98] at c74
                            · simp [c18, a93, a94, a95, a96, a97] at c74
                          · simp [c18, a93, a94, a95, a96] at c70
                      · rcases tof (ieq (((mget q_api_Cell s0 (⟨(iadd .i64 k3.X (((A4.get k4 s3)).X)), (iadd .i64 k3.Y (((A4.get k4 s3)).Y))⟩ : api_Cell) (⟨0, (⟨0, 0, 0, 0⟩ : (A4 Int))⟩ : comb_state))).length) (isub .i64 s2.length 1)) with a99 | a99
                        · rcases tof (ieq (iadd .i64 k3.X (((A4.get k4 s3)).X)) k2.X) with a100 | a100
                          · rcases tof (ieq (iadd .i64 k3.Y (((A4.get k4 s3)).Y)) k2.Y) with a101 | a101
                            · simp (maxSteps := 4000000) [c18, a93, a94, a99, a100, a101, f19, f19b, f21, esOf_map, f22, f67, f69, f69b, f71, f73, f73b, e_a4_i64, e_i64, e_sl_api_Row, e_sl_api_Run, e_additiveref34_seen, e_api_Cell, e_api_Region, e_api_Row, e_api_Run, e_comb_state, ↓c63_L0_u, ↓c63_L1_u, c63_0, c63_1, c63_2, c63_3, c63_4, c63_5, c63_6, c63_7, c63_8, c63_9, c63_10, c63_11, c63_12, c63_13, c63_14, c63_15, c63_16, c63_17, c63_18, c63_19, c63_20, c63_21, c63_23, c63_24, c63_26]
                            · simp [c18, a93, a94, a99, a100, a101] at c74
                          · simp [c18, a93, a94, a99, a100] at c74
                        · simp [c18, a93, a94, a99] at c70
                    · rcases tof (v24.getD false) with a102 | a102
                      · simp [c18, a93, a102] at c25
                      · rcases tof (ieq k3.X k2.X) with a103 | a103
                        · rcases tof (ieq k3.Y k2.Y) with a104 | a104
                          · simp [c18, a93, a102, a103, a104] at c60
                          · simp [c18, a93, a102, a103, a104] at c70
                        · simp [c18, a93, a102, a103] at c70
                · rw [if_neg h72] at h; cases h
              · rw [if_neg c70] at h
                rw [Bool.not_eq_true] at c70
                cases h
                show LK env [] 0 [3, 4, 5, 7, 8, 9, 10, 33, 34] c63_L0 (some (t_comb_examined_L0_st _ _ _ _ _ _)) = LK env [] 0 [3, 4, 5, 7, 8, 9, 10, 33, 34] c63_L0 (some (t_comb_examined_L0_st _ _ _ _ _ _))
                simp only [t_comb_examined_L0_st]
                rw [LK_step]
                rcases tof (mhas q_api_Cell s0 (⟨(iadd .i64 k3.X (((A4.get k4 s3)).X)), (iadd .i64 k3.Y (((A4.get k4 s3)).Y))⟩ : api_Cell)) with a105 | a105
                · rcases tof (ieq k3.X k2.X) with a106 | a106
                  · rcases tof (ieq k3.Y k2.Y) with a107 | a107
                    · simp [c18, a105, a106, a107] at c60
                    · rcases tof (ieq (((mget q_api_Cell s0 (⟨(iadd .i64 k3.X (((A4.get k4 s3)).X)), (iadd .i64 k3.Y (((A4.get k4 s3)).Y))⟩ : api_Cell) (⟨0, (⟨0, 0, 0, 0⟩ : (A4 Int))⟩ : comb_state))).length) (isub .i64 s2.length 1)) with a108 | a108
                      · simp [c18, a105, a106, a107, a108] at c70
                      · simp (maxSteps := 4000000) [c18, a105, a106, a107, a108, f19, f19b, f21, esOf_map, f22, f67, f69, f69b, e_a4_i64, e_i64, e_sl_api_Row, e_sl_api_Run, e_additiveref34_seen, e_api_Cell, e_api_Region, e_api_Row, e_api_Run, e_comb_state, ↓c63_L0_u, ↓c63_L1_u, c63_0, c63_1, c63_2, c63_3, c63_4, c63_5, c63_6, c63_7, c63_8, c63_9, c63_10, c63_11, c63_12, c63_13, c63_14, c63_15, c63_16, c63_17, c63_18, c63_19, c63_20, c63_21, c63_23, c63_24, c63_26]
                  · rcases tof (ieq (((mget q_api_Cell s0 (⟨(iadd .i64 k3.X (((A4.get k4 s3)).X)), (iadd .i64 k3.Y (((A4.get k4 s3)).Y))⟩ : api_Cell) (⟨0, (⟨0, 0, 0, 0⟩ : (A4 Int))⟩ : comb_state))).length) (isub .i64 s2.length 1)) with a109 | a109
                    · simp [c18, a105, a106, a109] at c70
                    · simp (maxSteps := 4000000) [c18, a105, a106, a109, f19, f19b, f21, esOf_map, f22, f67, f69, f69b, e_a4_i64, e_i64, e_sl_api_Row, e_sl_api_Run, e_additiveref34_seen, e_api_Cell, e_api_Region, e_api_Row, e_api_Run, e_comb_state, ↓c63_L0_u, ↓c63_L1_u, c63_0, c63_1, c63_2, c63_3, c63_4, c63_5, c63_6, c63_7, c63_8, c63_9, c63_10, c63_11, c63_12, c63_13, c63_14, c63_15, c63_16, c63_17, c63_18, c63_19, c63_20, c63_21, c63_23, c63_24, c63_26]
                · rcases tof (v24.getD false) with a110 | a110
                  · simp [c18, a105, a110] at c25
                  · rcases tof (ieq k3.X k2.X) with a111 | a111
                    · rcases tof (ieq k3.Y k2.Y) with a112 | a112
                      · simp [c18, a105, a110, a111, a112] at c60
                      · simp (maxSteps := 4000000) [c18, a105, a110, a111, a112, f19, f19b, f21, esOf_map, f22, f67, f69, f69b, e_a4_i64, e_i64, e_sl_api_Row, e_sl_api_Run, e_additiveref34_seen, e_api_Cell, e_api_Region, e_api_Row, e_api_Run, e_comb_state, ↓c63_L0_u, ↓c63_L1_u, c63_0, c63_1, c63_2, c63_3, c63_4, c63_5, c63_6, c63_7, c63_8, c63_9, c63_10, c63_11, c63_12, c63_13, c63_14, c63_15, c63_16, c63_17, c63_18, c63_19, c63_20, c63_21, c63_23, c63_24, c63_26]
                    · simp (maxSteps := 4000000) [c18, a105, a110, a111, f19, f19b, f21, esOf_map, f22, f67, f69, f69b, e_a4_i64, e_i64, e_sl_api_Row, e_sl_api_Run, e_additiveref34_seen, e_api_Cell, e_api_Region, e_api_Row, e_api_Run, e_comb_state, ↓c63_L0_u, ↓c63_L1_u, c63_0, c63_1, c63_2, c63_3, c63_4, c63_5, c63_6, c63_7, c63_8, c63_9, c63_10, c63_11, c63_12, c63_13, c63_14, c63_15, c63_16, c63_17, c63_18, c63_19, c63_20, c63_21, c63_23, c63_24, c63_26]
            · rw [if_neg h68] at h; cases h
    · rw [if_neg h20] at h; cases h
  · rw [if_neg c18] at h
    rw [Bool.not_eq_true] at c18
    cases h
    show LK env [] 0 [3, 4, 5, 7, 8, 9, 10, 33, 34] c63_L0 (some (t_comb_examined_L0_st _ _ _ _ _ _)) = some (t_comb_examined_L0_out _ _ _ _ _ _)
    simp only [t_comb_examined_L0_st, t_comb_examined_L0_out]
    rw [LK_step]
    simp (maxSteps := 4000000) [c18, e_a4_i64, e_i64, e_sl_api_Row, e_sl_api_Run, e_additiveref34_seen, e_api_Cell, e_api_Region, e_api_Row, e_api_Run, e_comb_state, ↓c63_L0_u, ↓c63_L1_u, c63_0, c63_1, c63_2, c63_3, c63_4, c63_5, c63_6, c63_7, c63_8, c63_9, c63_10, c63_11, c63_12, c63_13, c63_14, c63_15, c63_16, c63_17, c63_18, c63_19, c63_20, c63_21, c63_23, c63_24, c63_26]) bigN s r h
def t_comb_examined_L1 (k0 : api_Region) (k1 : api_Cell) (k2 : api_Cell) (s : ((List (api_Cell × comb_state)) × (FS api_Cell))) : Option (LR ((List (api_Cell × comb_state)) × (FS api_Cell)) (List (api_Cell × comb_state))) := match s with
 | (s0, s1) => (if (igt (flen s1) 0) = true then (match fget s1 0 with
 | none => none
 | some v8 => (match fsl s1 1 (flen s1) with
 | none => none
 | some v15 => (match loopT (t_comb_examined_L0 k0 k1 k2 v8 u_comb_steps) bigN (s0, v15, (mget q_api_Cell s0 v8 (⟨0, (⟨0, 0, 0, 0⟩ : (A4 Int))⟩ : comb_state)), 0) with
 | none => none
 | some v60 => (if (band (ieq v8.X k1.X) (band (ieq v8.Y k1.Y) true)) = true then some (.dn (mset q_api_Cell v60.2.1 v8 v60.1))
 else some (.nx ((mset q_api_Cell v60.2.1 v8 v60.1), v60.2.2))))))
 else some (.dn s0))
def t_comb_examined_L1_st (k0 : api_Region) (k1 : api_Cell) (k2 : api_Cell) (s : ((List (api_Cell × comb_state)) × (FS api_Cell))) : St := match s with
 | (s0, s1) => ⟨fr [(3, .ptr 3 0 0), (4, .ptr 4 0 0), (5, .ptr 5 0 0), (7, .map 7 0), (8, .arr 8 0 0 s1.l.length)], hl [(3, .box 0 [encF e_api_Row k0.Rows]), (4, .box 0 [.int .i64 k1.X, .int .i64 k1.Y]), (5, .box 0 [.int .i64 k2.X, .int .i64 k2.Y]), (7, .map 0 (encM k_api_Cell v_comb_state s0) false), (8, .arr 0 2 26 (cellsE e_api_Cell s1.l) false)]⟩
def t_comb_examined_L1_out (k0 : api_Region) (k1 : api_Cell) (k2 : api_Cell) (x : (List (api_Cell × comb_state))) : LE × St := (.exit 0, ⟨fr [(7, .map 7 0)], hl [(7, .map 0 (encM k_api_Cell v_comb_state x) false)]⟩)
theorem t_comb_examined_L1_ok {k0 : api_Region} {k1 : api_Cell} {k2 : api_Cell} {s : ((List (api_Cell × comb_state)) × (FS api_Cell))} {r : (List (api_Cell × comb_state))} (h : loopT (t_comb_examined_L1 k0 k1 k2) bigN s = some r) : LK env [] 0 [3, 4, 5, 7, 8] c63_L1 (some (t_comb_examined_L1_st k0 k1 k2 s)) = some (t_comb_examined_L1_out k0 k1 k2 r) := loop_walk (st := t_comb_examined_L1_st k0 k1 k2) (out := t_comb_examined_L1_out k0 k1 k2) (by
  clear h s r
  rintro ⟨s0, s1⟩ x h
  simp only [t_comb_examined_L1] at h
  by_cases c4 : (igt (flen s1) 0) = true
  · rw [if_pos c4] at h
    cases h7 : fget s1 0 with
    | none => (rw [h7] at h; cases h)
    | some v8 =>
      simp only [h7] at h
      have f5 := iaddr_row (w := 2) h7
      have f6 := h7
      have f9 := (pack_row0 (e := e_api_Cell) f6 true 2 (by decide) (by decide))
      simp only [e_api_Cell] at f9
      cases h14 : fsl s1 1 (flen s1) with
      | none => (rw [h14] at h; cases h)
      | some v15 =>
        simp only [h14] at h
        have f12 := cut_part (e := e_api_Cell) h14
        try simp only [Int.reduceToNat, Nat.reduceMul, Nat.one_mul, Nat.mul_one] at f12
        have f13 := part_off h14 2
        try simp only [Int.reduceToNat, Nat.reduceMul, Nat.one_mul, Nat.mul_one] at f13
        have f10 := slice_rowlo (w := 2) h14
        try simp only [Int.reduceToNat, Nat.reduceMul, Nat.one_mul, Nat.mul_one] at f10
        have f11 := h14
        have f16 := look_enc (ek := k_api_Cell) (ev := v_comb_state) s0 v8 (⟨0, (⟨0, 0, 0, 0⟩ : (A4 Int))⟩ : comb_state)
        simp only [k_api_Cell, v_comb_state] at f16
        have f17 := u_comb_steps_ok 
        cases h113 : loopT (t_comb_examined_L0 k0 k1 k2 v8 u_comb_steps) bigN (s0, v15, (mget q_api_Cell s0 v8 (⟨0, (⟨0, 0, 0, 0⟩ : (A4 Int))⟩ : comb_state)), 0) with
        | none => (rw [h113] at h; cases h)
        | some v114 =>
          simp only [h113] at h
          have f115 := t_comb_examined_L0_ok h113
          simp only [t_comb_examined_L0_st, t_comb_examined_L0_out, fset_len] at f115
          try simp only [fcase_nil, fcase_lst, fcase_fsnoc, fcase_fapp, fcase_fset, fcase_frep, fcase_flit, fcase_flst] at f115
          have f116 := fun (H : Heap) hg => set_enc (ek := k_api_Cell) (ev := v_comb_state) (h := H) (g := 7) (ver := 0) (es := v114.2.1) hg v8 v114.1
          simp only [k_api_Cell, v_comb_state] at f116
          by_cases c117 : (band (ieq v8.X k1.X) (band (ieq v8.Y k1.Y) true)) = true
          · rw [if_pos c117] at h
            cases h
            show LK env [] 0 [3, 4, 5, 7, 8] c63_L1 (some (t_comb_examined_L1_st _ _ _ _)) = some (t_comb_examined_L1_out _ _ _ _)
            simp only [t_comb_examined_L1_st, t_comb_examined_L1_out]
            rw [LK_step]
            rcases tof (ieq v8.X k1.X) with a118 | a118
            · rcases tof (ieq v8.Y k1.Y) with a119 | a119
              · try simp only [c4, a118, a119] at f115
                simp (maxSteps := 4000000) [c4, a118, a119, f5, f9, f12, f13, f10, f16, esOf_map, f17, f115, f116, e_a4_i64, e_i64, e_sl_api_Row, e_sl_api_Run, e_additiveref34_seen, e_api_Cell, e_api_Region, e_api_Row, e_api_Run, e_comb_state, ↓c63_L0_u, ↓c63_L1_u, c63_0, c63_1, c63_2, c63_3, c63_4, c63_5, c63_6, c63_7, c63_8, c63_9, c63_10, c63_11, c63_12, c63_13, c63_14, c63_15, c63_16, c63_17, c63_18, c63_19, c63_20, c63_21, c63_23, c63_24, c63_26]
              · simp [c4, a118, a119] at c117
            · simp [c4, a118] at c117
          · rw [if_neg c117] at h
            rw [Bool.not_eq_true] at c117
            cases h
            show LK env [] 0 [3, 4, 5, 7, 8] c63_L1 (some (t_comb_examined_L1_st _ _ _ _)) = LK env [] 0 [3, 4, 5, 7, 8] c63_L1 (some (t_comb_examined_L1_st _ _ _ _))
            simp only [t_comb_examined_L1_st]
            rw [LK_step]
            rcases tof (ieq v8.X k1.X) with a120 | a120
            · rcases tof (ieq v8.Y k1.Y) with a121 | a121
              · simp [c4, a120, a121] at c117
              · try simp only [c4, a120, a121] at f115
                simp (maxSteps := 4000000) [c4, a120, a121, f5, f9, f12, f13, f10, f16, esOf_map, f17, f115, f116, e_a4_i64, e_i64, e_sl_api_Row, e_sl_api_Run, e_additiveref34_seen, e_api_Cell, e_api_Region, e_api_Row, e_api_Run, e_comb_state, ↓c63_L0_u, ↓c63_L1_u, c63_0, c63_1, c63_2, c63_3, c63_4, c63_5, c63_6, c63_7, c63_8, c63_9, c63_10, c63_11, c63_12, c63_13, c63_14, c63_15, c63_16, c63_17, c63_18, c63_19, c63_20, c63_21, c63_23, c63_24, c63_26]
            · try simp only [c4, a120] at f115
              simp (maxSteps := 4000000) [c4, a120, f5, f9, f12, f13, f10, f16, esOf_map, f17, f115, f116, e_a4_i64, e_i64, e_sl_api_Row, e_sl_api_Run, e_additiveref34_seen, e_api_Cell, e_api_Region, e_api_Row, e_api_Run, e_comb_state, ↓c63_L0_u, ↓c63_L1_u, c63_0, c63_1, c63_2, c63_3, c63_4, c63_5, c63_6, c63_7, c63_8, c63_9, c63_10, c63_11, c63_12, c63_13, c63_14, c63_15, c63_16, c63_17, c63_18, c63_19, c63_20, c63_21, c63_23, c63_24, c63_26]
  · rw [if_neg c4] at h
    rw [Bool.not_eq_true] at c4
    cases h
    show LK env [] 0 [3, 4, 5, 7, 8] c63_L1 (some (t_comb_examined_L1_st _ _ _ _)) = some (t_comb_examined_L1_out _ _ _ _)
    simp only [t_comb_examined_L1_st, t_comb_examined_L1_out]
    rw [LK_step]
    simp (maxSteps := 4000000) [c4, e_a4_i64, e_i64, e_sl_api_Row, e_sl_api_Run, e_additiveref34_seen, e_api_Cell, e_api_Region, e_api_Row, e_api_Run, e_comb_state, ↓c63_L0_u, ↓c63_L1_u, c63_0, c63_1, c63_2, c63_3, c63_4, c63_5, c63_6, c63_7, c63_8, c63_9, c63_10, c63_11, c63_12, c63_13, c63_14, c63_15, c63_16, c63_17, c63_18, c63_19, c63_20, c63_21, c63_23, c63_24, c63_26]) bigN s r h
def t_comb_examined (p0 : api_Region) (p1 : api_Cell) (p2 : api_Cell) : Option (List (api_Cell × comb_state)) := (match loopT (t_comb_examined_L1 p0 p1 p2) bigN ((mset q_api_Cell ([] : (List (api_Cell × comb_state))) p2 (⟨0, (⟨0, 0, 0, 0⟩ : (A4 Int))⟩ : comb_state)), (flit ([p2] : List api_Cell))) with
 | none => none
 | some v65 => some v65)
theorem t_comb_examined_ok {p0 : api_Region} {p1 : api_Cell} {p2 : api_Cell} {r : (List (api_Cell × comb_state))} (h : t_comb_examined p0 p1 p2 = some r) : FC env 63 [.agg [encF e_api_Row p0.Rows], .agg [.int .i64 p1.X, .int .i64 p1.Y], .agg [.int .i64 p2.X, .int .i64 p2.Y]] none = some (encMP k_api_Cell v_comb_state r, fun _ => none) := by
  unfold t_comb_examined at h
  have f1 := mkM_enc (ek := k_api_Cell) (ev := v_comb_state)
  have f2 := fun (H : Heap) hg => set_enc (ek := k_api_Cell) (ev := v_comb_state) (h := H) (g := 16) (ver := 0) (es := ([] : (List (api_Cell × comb_state)))) hg p2 (⟨0, (⟨0, 0, 0, 0⟩ : (A4 Int))⟩ : comb_state)
  simp only [k_api_Cell, v_comb_state] at f2
  have f3 : ∀ (H : Heap) (g0 : Nat), bslV H g0 1 2 26 (some [.int .i64 p2.X, .int .i64 p2.Y]) = some (.arr g0 (newVer H g0) 0 (flit ([p2] : List api_Cell)).l.length, upd H g0 (some (.arr (newVer H g0) 2 26 (cellsE e_api_Cell (flit ([p2] : List api_Cell)).l) false))) := fun H g0 => rfl
  cases h122 : loopT (t_comb_examined_L1 p0 p1 p2) bigN ((mset q_api_Cell ([] : (List (api_Cell × comb_state))) p2 (⟨0, (⟨0, 0, 0, 0⟩ : (A4 Int))⟩ : comb_state)), (flit ([p2] : List api_Cell))) with
  | none => (rw [h122] at h; cases h)
  | some v123 =>
    simp only [h122] at h
    have f124 := t_comb_examined_L1_ok h122
    simp only [t_comb_examined_L1_st, t_comb_examined_L1_out, fset_len] at f124
    try simp only [fcase_nil, fcase_lst, fcase_fsnoc, fcase_fapp, fcase_fset, fcase_frep, fcase_flit, fcase_flst] at f124
    have f125 := fun (H : Heap) (g w : Nat) hg => snap_mapD (ek := k_api_Cell) (ev := v_comb_state) (es := v123) (h := H) (g := g) (ver := w) hg
    cases h
    refine FC_pure (lf := lf63) rfl rfl rfl ?_
    simp only [lf63, lc63, c63_0, c63_1, c63_2, c63_3, c63_4, c63_5, c63_6, c63_7, c63_8, c63_9, c63_10, c63_11, c63_12, c63_13, c63_14, c63_15, c63_16, c63_17, c63_18, c63_19, c63_20, c63_21, c63_23, c63_24, c63_26]
    simp (maxSteps := 4000000) [f1, f2, f3, -bslV_1, f124, e_a4_i64, e_i64, e_sl_api_Row, e_sl_api_Run, e_additiveref34_seen, e_api_Cell, e_api_Region, e_api_Row, e_api_Run, e_comb_state, ↓c63_L0_u, ↓c63_L1_u, f125]

/-! comb.Easy -/
theorem c33_L0_u (Γ : Env) (ps : List Nat) (σ : St) : EC Γ ps 0 c33_L0 σ = EC Γ ps 0 (.seq (.seq (.reg false c33_9) (.cond (.t 42) .skip (.seq (.trim [11]) (.exit 0)))) (.seq (.blk 1 (.seq (.reg false c33_10) (.seq (.reg false c33_11) (.seq (.reg false c33_12) (.reg false c33_13))))) (.seq (.reg false c33_14) (.reg false c33_15)))) σ := rfl
def t_comb_Easy_L0 (k0 : api_Cell) (k1 : (List (api_Cell × comb_state))) (s : ((FS api_Cell) × api_Cell × Int)) : Option (LR ((FS api_Cell) × api_Cell × Int) (FS api_Cell)) := match s with
 | (s0, s1, s2) => (if (bnot (band (ieq s1.X k0.X) (band (ieq s1.Y k0.Y) true))) = true then (match t_comb_behind (mget q_api_Cell k1 s1 (⟨0, (⟨0, 0, 0, 0⟩ : (A4 Int))⟩ : comb_state)) s2 with
 | none => none
 | some v18 => (if inB v18.2 4 = true then (if fits 16 ((flen s0) + 1) = true then some (.nx ((fsnoc s0 (⟨(iadd .i64 s1.X (((A4.get u_comb_steps v18.2)).X)), (iadd .i64 s1.Y (((A4.get u_comb_steps v18.2)).Y))⟩ : api_Cell)), (⟨(iadd .i64 s1.X (((A4.get u_comb_steps v18.2)).X)), (iadd .i64 s1.Y (((A4.get u_comb_steps v18.2)).Y))⟩ : api_Cell), v18.2)) else none) else none))
 else some (.dn s0))
def t_comb_Easy_L0_st (k0 : api_Cell) (k1 : (List (api_Cell × comb_state))) (s : ((FS api_Cell) × api_Cell × Int)) : St := match s with
 | (s0, s1, s2) => ⟨fr [(5, .ptr 5 0 0), (8, encMP k_api_Cell v_comb_state k1), (11, .arr 11 0 0 s0.l.length), (12, .ptr 12 0 0), (13, .int .i64 s2)], hl [(5, .box 0 [.int .i64 k0.X, .int .i64 k0.Y]), (11, .arr 0 2 26 (cellsE e_api_Cell s0.l) false), (12, .box 0 [.int .i64 s1.X, .int .i64 s1.Y])]⟩
def t_comb_Easy_L0_out (k0 : api_Cell) (k1 : (List (api_Cell × comb_state))) (x : (FS api_Cell)) : LE × St := (.exit 0, ⟨fr [(11, .arr 11 0 0 x.l.length)], hl [(11, .arr 0 2 26 (cellsE e_api_Cell x.l) false)]⟩)
theorem t_comb_Easy_L0_ok {k0 : api_Cell} {k1 : (List (api_Cell × comb_state))} {s : ((FS api_Cell) × api_Cell × Int)} {r : (FS api_Cell)} (h : loopT (t_comb_Easy_L0 k0 k1) bigN s = some r) : LK env [] 0 [5, 8, 11, 12, 13] c33_L0 (some (t_comb_Easy_L0_st k0 k1 s)) = some (t_comb_Easy_L0_out k0 k1 r) := loop_walk (st := t_comb_Easy_L0_st k0 k1) (out := t_comb_Easy_L0_out k0 k1) (by
  clear h s r
  rintro ⟨s0, s1, s2⟩ x h
  simp only [t_comb_Easy_L0] at h
  by_cases c19 : (bnot (band (ieq s1.X k0.X) (band (ieq s1.Y k0.Y) true))) = true
  · rw [if_pos c19] at h
    have f20 := look_enc (ek := k_api_Cell) (ev := v_comb_state) k1 s1 (⟨0, (⟨0, 0, 0, 0⟩ : (A4 Int))⟩ : comb_state)
    simp only [k_api_Cell, v_comb_state] at f20
    cases h22 : t_comb_behind (mget q_api_Cell k1 s1 (⟨0, (⟨0, 0, 0, 0⟩ : (A4 Int))⟩ : comb_state)) s2 with
    | none => (rw [h22] at h; cases h)
    | some v23 =>
      simp only [h22] at h
      have f21 := t_comb_behind_ok h22
      have f24 := u_comb_steps_ok 
      by_cases h26 : inB v23.2 4 = true
      · rw [if_pos h26] at h
        have f25 := @idx_in 4 v23.2 h26 2 true [.int .i64 u_comb_steps.a0.X, .int .i64 u_comb_steps.a0.Y, .int .i64 u_comb_steps.a1.X, .int .i64 u_comb_steps.a1.Y, .int .i64 u_comb_steps.a2.X, .int .i64 u_comb_steps.a2.Y, .int .i64 u_comb_steps.a3.X, .int .i64 u_comb_steps.a3.Y]
        have f25b := @pack_A4 _ _ e_api_Cell _ u_comb_steps _ h26 [] [] (by decide) true
        simp only [A4.toL, cellsE, List.flatMap_cons, List.flatMap_nil, List.append_assoc, List.nil_append, List.cons_append, List.append_nil, List.length_cons, List.length_nil, Nat.zero_add, e_api_Cell] at f25b
        by_cases h28 : fits 16 ((flen s0) + 1) = true
        · rw [if_pos h28] at h
          have f27 := fun g0 H y => @app_row1 _ _ e_api_Cell _ s0 (⟨(iadd .i64 s1.X (((A4.get u_comb_steps v23.2)).X)), (iadd .i64 s1.Y (((A4.get u_comb_steps v23.2)).Y))⟩ : api_Cell) 16 h28 (by decide) g0 H 11 0 26 y
          simp only [e_api_Cell] at f27
          cases h
          show LK env [] 0 [5, 8, 11, 12, 13] c33_L0 (some (t_comb_Easy_L0_st _ _ _)) = LK env [] 0 [5, 8, 11, 12, 13] c33_L0 (some (t_comb_Easy_L0_st _ _ _))
          simp only [t_comb_Easy_L0_st]
          rw [LK_step]
          rcases tof (ieq s1.X k0.X) with a29 | a29
          · rcases tof (ieq s1.Y k0.Y) with a30 | a30
            · simp [a29, a30] at c19
            · simp (maxSteps := 4000000) [a29, a30, f20, es_MP, f21, f24, f25, f25b, f27, e_a4_i64, e_i64, e_sl_api_Row, e_sl_api_Run, e_additiveref34_seen, e_api_Cell, e_api_Region, e_api_Row, e_api_Run, e_comb_state, ↓c33_L0_u, c33_0, c33_1, c33_2, c33_3, c33_4, c33_5, c33_6, c33_7, c33_8, c33_9, c33_10, c33_11, c33_12, c33_13, c33_14, c33_15, c33_17]
          · simp (maxSteps := 4000000) [a29, f20, es_MP, f21, f24, f25, f25b, f27, e_a4_i64, e_i64, e_sl_api_Row, e_sl_api_Run, e_additiveref34_seen, e_api_Cell, e_api_Region, e_api_Row, e_api_Run, e_comb_state, ↓c33_L0_u, c33_0, c33_1, c33_2, c33_3, c33_4, c33_5, c33_6, c33_7, c33_8, c33_9, c33_10, c33_11, c33_12, c33_13, c33_14, c33_15, c33_17]
        · rw [if_neg h28] at h; cases h
      · rw [if_neg h26] at h; cases h
  · rw [if_neg c19] at h
    rw [Bool.not_eq_true] at c19
    cases h
    show LK env [] 0 [5, 8, 11, 12, 13] c33_L0 (some (t_comb_Easy_L0_st _ _ _)) = some (t_comb_Easy_L0_out _ _ _)
    simp only [t_comb_Easy_L0_st, t_comb_Easy_L0_out]
    rw [LK_step]
    rcases tof (ieq s1.X k0.X) with a31 | a31
    · rcases tof (ieq s1.Y k0.Y) with a32 | a32
      · simp (maxSteps := 4000000) [a31, a32, e_a4_i64, e_i64, e_sl_api_Row, e_sl_api_Run, e_additiveref34_seen, e_api_Cell, e_api_Region, e_api_Row, e_api_Run, e_comb_state, ↓c33_L0_u, c33_0, c33_1, c33_2, c33_3, c33_4, c33_5, c33_6, c33_7, c33_8, c33_9, c33_10, c33_11, c33_12, c33_13, c33_14, c33_15, c33_17]
      · simp [a31, a32] at c19
    · simp [a31] at c19) bigN s r h
def t_comb_Easy (p0 : api_Region) (p1 : api_Cell) (p2 : api_Cell) : Option ((FS api_Cell) × Bool) := (match t_region_Contains p0 p1 with
 | none => none
 | some v3 => (match gOpt (bnot (bnot v3)) (t_region_Contains p0 p2) with
 | none => none
 | some v6 => (if (bor (bnot v3) (bnot (v6.getD false))) = true then some ((FS.nil : (FS api_Cell)), false)
 else (match t_comb_examined p0 p1 p2 with
 | none => none
 | some v10 => (if (bnot (mhas q_api_Cell v10 p1)) = true then some ((FS.nil : (FS api_Cell)), false)
 else (match loopT (t_comb_Easy_L0 p2 v10) bigN ((flit ([p1] : List api_Cell)), p1, (-1)) with
 | none => none
 | some v25 => some ((flst v25), true)))))))
theorem t_comb_Easy_ok {p0 : api_Region} {p1 : api_Cell} {p2 : api_Cell} {r : ((FS api_Cell) × Bool)} (h : t_comb_Easy p0 p1 p2 = some r) : FC env 33 [.agg [encF e_api_Row p0.Rows], .agg [.int .i64 p1.X, .int .i64 p1.Y], .agg [.int .i64 p2.X, .int .i64 p2.Y]] none = some (.tup [encF e_api_Cell r.1, .bool r.2], fun _ => none) := by
  unfold t_comb_Easy at h
  cases h2 : t_region_Contains p0 p1 with
  | none => (rw [h2] at h; cases h)
  | some v3 =>
    simp only [h2] at h
    have f1 := t_region_Contains_ok h2
    cases h5 : gOpt (bnot (bnot v3)) (t_region_Contains p0 p2) with
    | none => (rw [h5] at h; cases h)
    | some v6 =>
      simp only [h5] at h
      have f4 := fun (q0 : (bnot v3) = false) => t_region_Contains_ok (gOpt_getD false h5 (bnot_mk q0))
      by_cases c7 : (bor (bnot v3) (bnot (v6.getD false))) = true
      · rw [if_pos c7] at h
        cases h
        refine FC_pure (lf := lf33) rfl rfl rfl ?_
        simp only [lf33, lc33, c33_0, c33_1, c33_2, c33_3, c33_4, c33_5, c33_6, c33_7, c33_8, c33_9, c33_10, c33_11, c33_12, c33_13, c33_14, c33_15, c33_17]
        rcases tof v3 with a8 | a8
        · rcases tof (v6.getD false) with a9 | a9
          · simp [a8, a9] at c7
          · simp (maxSteps := 4000000) [a8, a9, f1, f4, e_a4_i64, e_i64, e_sl_api_Row, e_sl_api_Run, e_additiveref34_seen, e_api_Cell, e_api_Region, e_api_Row, e_api_Run, e_comb_state, ↓c33_L0_u, snap_tupE, tupS, snap7_int, snap7_bool, snap7_str, snap7_nils, snap7_agg]
        · simp (maxSteps := 4000000) [a8, f1, f4, e_a4_i64, e_i64, e_sl_api_Row, e_sl_api_Run, e_additiveref34_seen, e_api_Cell, e_api_Region, e_api_Row, e_api_Run, e_comb_state, ↓c33_L0_u, snap_tupE, tupS, snap7_int, snap7_bool, snap7_str, snap7_nils, snap7_agg]
      · rw [if_neg c7] at h
        rw [Bool.not_eq_true] at c7
        cases h11 : t_comb_examined p0 p1 p2 with
        | none => (rw [h11] at h; cases h)
        | some v12 =>
          simp only [h11] at h
          have f10 := t_comb_examined_ok h11
          have f13 := look_encOk (ek := k_api_Cell) (ev := v_comb_state) v12 p1 (⟨0, (⟨0, 0, 0, 0⟩ : (A4 Int))⟩ : comb_state)
          simp only [k_api_Cell, v_comb_state] at f13
          by_cases c14 : (bnot (mhas q_api_Cell v12 p1)) = true
          · rw [if_pos c14] at h
            cases h
            refine FC_pure (lf := lf33) rfl rfl rfl ?_
            simp only [lf33, lc33, c33_0, c33_1, c33_2, c33_3, c33_4, c33_5, c33_6, c33_7, c33_8, c33_9, c33_10, c33_11, c33_12, c33_13, c33_14, c33_15, c33_17]
            rcases tof v3 with a15 | a15
            · rcases tof (v6.getD false) with a16 | a16
              · rcases tof (mhas q_api_Cell v12 p1) with a17 | a17
                · simp [a15, a16, a17] at c14
                · simp (maxSteps := 4000000) [a15, a16, a17, f1, f4, f10, f13, es_MP, e_a4_i64, e_i64, e_sl_api_Row, e_sl_api_Run, e_additiveref34_seen, e_api_Cell, e_api_Region, e_api_Row, e_api_Run, e_comb_state, ↓c33_L0_u, snap_tupE, tupS, snap7_int, snap7_bool, snap7_str, snap7_nils, snap7_agg]
              · simp [a15, a16] at c7
            · simp [a15] at c7
          · rw [if_neg c14] at h
            rw [Bool.not_eq_true] at c14
            have f18 : ∀ (H : Heap) (g0 : Nat), bslV H g0 1 2 26 (some [.int .i64 p1.X, .int .i64 p1.Y]) = some (.arr g0 (newVer H g0) 0 (flit ([p1] : List api_Cell)).l.length, upd H g0 (some (.arr (newVer H g0) 2 26 (cellsE e_api_Cell (flit ([p1] : List api_Cell)).l) false))) := fun H g0 => rfl
            cases h33 : loopT (t_comb_Easy_L0 p2 v12) bigN ((flit ([p1] : List api_Cell)), p1, (-1)) with
            | none => (rw [h33] at h; cases h)
            | some v34 =>
              simp only [h33] at h
              have f35 := t_comb_Easy_L0_ok h33
              simp only [t_comb_Easy_L0_st, t_comb_Easy_L0_out, fset_len] at f35
              try simp only [fcase_nil, fcase_lst, fcase_fsnoc, fcase_fapp, fcase_fset, fcase_frep, fcase_flit, fcase_flst] at f35
              cases h
              refine FC_pure (lf := lf33) rfl rfl rfl ?_
              simp only [lf33, lc33, c33_0, c33_1, c33_2, c33_3, c33_4, c33_5, c33_6, c33_7, c33_8, c33_9, c33_10, c33_11, c33_12, c33_13, c33_14, c33_15, c33_17]
              rcases tof v3 with a36 | a36
              · rcases tof (v6.getD false) with a37 | a37
                · rcases tof (mhas q_api_Cell v12 p1) with a38 | a38
                  · try simp only [a36, a37, a38] at f35
                    simp (maxSteps := 4000000) [a36, a37, a38, f1, f4, f10, f13, es_MP, f18, -bslV_1, f35, e_a4_i64, e_i64, e_sl_api_Row, e_sl_api_Run, e_additiveref34_seen, e_api_Cell, e_api_Region, e_api_Row, e_api_Run, e_comb_state, ↓c33_L0_u, snap_row7 (e := e_api_Cell) (el := 26) (fz := false), snap_tupE, tupS, snap7_int, snap7_bool, snap7_str, snap7_nils, snap7_agg]
                  · simp [a36, a37, a38] at c14
                · simp [a36, a37] at c7
              · simp [a36] at c7
end Go.Proofs.Ytchiiiahgmfofaa
