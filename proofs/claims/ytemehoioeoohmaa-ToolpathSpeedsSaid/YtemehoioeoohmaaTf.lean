/- Typed functions of this seat, each with the proof that the code computes it; by program (tg3.py). -/
import Derived.Test.YtemehoioeoohmaaCode
import Derived.Test.YtemehoioeoohmaaVu
import Derived.KernelRfl
import Derived.Test.YtemehoioeoohmaaTe
namespace Go.Proofs.Ytemehoioeoohmaa
open Go Go.Vv Go.Proofs
set_option linter.unusedSimpArgs false
set_option linter.unusedVariables false
set_option maxRecDepth 100000
set_option maxHeartbeats 4000000

/-! slices.IndexFunc_api_Run_api_Run -/
attribute [simp] c96_0 c96_1 c96_2 c96_3 c96_4 c96_5 c96_6 c96_8
theorem c96_L0_u (Γ : Env) (ps : List Nat) (σ : St) : EC Γ ps 0 Jk0 σ = EC Γ ps 0 (.seq (.reg false c96_2) (.seq (.cond (.t 9) .skip (.seq (.trim []) (.exit 0))) (.seq (.blk 1 (.seq (.reg false c96_3) (.seq (.reg false c96_4) (.cond (.t 16) (.seq (.reg false c96_5) (.seq (.trim [4]) .ret)) .skip)))) (.reg false c96_6)))) σ := rfl
attribute [simp ↓] c96_L0_u
def Kd (k0 : (FS Kg)) (k1 : Int) (k2 : Int) (s : Int) : Option (LR Int (Int ⊕ Unit)) := match s with
 | s0 => (if (ilt s0 k2) = true then (match fget k0 s0 with
 | none => none
 | some v4 => (if (Zv v4 k1) = true then some (.dn (.inl s0))
 else some (.nx (iadd .i64 s0 1))))
 else some (.dn (.inr ())))
def J1 (k0 : (FS Kg)) (k1 : Int) (k2 : Int) (s : Int) : St := match s with
 | s0 => ⟨fr [(0, encF Yc k0), (1, .fn 92 [.rptr [.int .i64 k1]]), (7, .int .i64 k2), (8, .int .i64 s0)], hl []⟩
def J7 (k0 : (FS Kg)) (k1 : Int) (k2 : Int) (x : (Int ⊕ Unit)) : LE × St := match x with
 | .inl x => (.ret, ⟨fr [(4, .int .i64 x)], hl []⟩)
 | .inr x => (.exit 0, ⟨fr [], hl []⟩)
theorem jy {k0 : (FS Kg)} {k1 : Int} {k2 : Int} {s : Int} {r : (Int ⊕ Unit)} (h : Ku (Kd k0 k1 k2) bigN s = some r) : LK env [] 0 [0, 1, 7, 8] Jk0 (some (J1 k0 k1 k2 s)) = some (J7 k0 k1 k2 r) := Q3 (st := J1 k0 k1 k2) (out := J7 k0 k1 k2) (by
 clear h s r
 rintro s0 x h
 simp only [Kd] at h
 by_cases c1 : (ilt s0 k2) = true
 · rw [if_pos c1] at h
   cases h3 : fget k0 s0 with
   | none => (rw [h3] at h; cases h)
   | some v4 =>
    simp only [h3] at h
    have f2 := K5 (e := Yc) h3
    have f5 := Jge v4 k1
    by_cases c6 : (Zv v4 k1) = true
    · rw [if_pos c6] at h
      cases h
      show LK env [] 0 [0, 1, 7, 8] Jk0 (some (J1 _ _ _ _)) = some (J7 _ _ _ _)
      simp only [J1, J7]
      rw [J4]
      simp (maxSteps := 4000000) [c1, c6, f2, f5]
    · rw [if_neg c6] at h
      rw [Bool.not_eq_true] at c6
      cases h
      show LK env [] 0 [0, 1, 7, 8] Jk0 (some (J1 _ _ _ _)) = LK env [] 0 [0, 1, 7, 8] Jk0 (some (J1 _ _ _ _))
      simp only [J1]
      rw [J4]
      simp (maxSteps := 4000000) [c1, c6, f2, f5]
 · rw [if_neg c1] at h
   rw [Bool.not_eq_true] at c1
   cases h
   show LK env [] 0 [0, 1, 7, 8] Jk0 (some (J1 _ _ _ _)) = some (J7 _ _ _ _)
   simp only [J1, J7]
   rw [J4]
   simp (maxSteps := 4000000) [c1]) bigN s r h
def K0 (p0 : (FS Kg)) (p1_0 : Int) : Option Int := (match Ku (Kd p0 p1_0 (flen p0)) bigN 0 with
 | none => none
 | some v8 => (match v8 with
 | .inl v8x => some v8x
 | .inr v8x => some (-1)))
theorem zd {p0 : (FS Kg)} {p1_0 : Int} {r : Int} (h : K0 p0 p1_0 = some r) : FC env 96 [encF Yc p0, .fn 92 [.rptr [.int .i64 p1_0]]] none = some (.int .i64 r, fun _ => none) := by
 unfold K0 at h
 cases h7 : Ku (Kd p0 p1_0 (flen p0)) bigN 0 with
 | none => (rw [h7] at h; cases h)
 | some v8 =>
  simp only [h7] at h
  have f9 := jy h7
  cases v8 with
  | inl v8x =>
   try simp only at h
   simp only [J1, J7, J8] at f9
   try simp only [Jj, Ji, Jm, Jw, Jt, Ju, Jv, Js] at f9
   cases h
   refine J9 (lf := lf96) rfl rfl rfl ?_
   simp only [lf96, lc96]
   simp (maxSteps := 4000000) [f9]
  | inr v8x =>
   try simp only at h
   simp only [J1, J7, J8] at f9
   try simp only [Jj, Ji, Jm, Jw, Jt, Ju, Jv, Js] at f9
   cases h
   refine J9 (lf := lf96) rfl rfl rfl ?_
   simp only [lf96, lc96]
   simp (maxSteps := 4000000) [f9]

/-! slices.ContainsFunc_api_Run_api_Run -/
attribute [simp] c91_0 c91_1
def Kw (p0 : (FS Kg)) (p1_0 : Int) : Option Bool := (match K0 p0 p1_0 with
 | none => none
 | some v3 => some (ige v3 0))
theorem jx {p0 : (FS Kg)} {p1_0 : Int} {r : Bool} (h : Kw p0 p1_0 = some r) : FC env 91 [encF Yc p0, .fn 92 [.rptr [.int .i64 p1_0]]] none = some (.bool r, fun _ => none) := by
 unfold Kw at h
 cases h2 : K0 p0 p1_0 with
 | none => (rw [h2] at h; cases h)
 | some v3 =>
  simp only [h2] at h
  have f1 := zd h2
  cases h
  refine J9 (lf := lf91) rfl rfl rfl ?_
  simp only [lf91, lc91]
  simp (maxSteps := 4000000) [f1]

/-! runs.Contains -/
attribute [simp] c89_0 c89_1 c89_2 c89_3
def Jad (p0 : (FS Kg)) (p1 : Int) : Option Bool := (match zw p0 with
 | none => none
 | some v3 => (if (bnot v3) = true then some false
 else (match Kw p0 p1 with
 | none => none
 | some v7 => some v7)))
theorem Jhp {p0 : (FS Kg)} {p1 : Int} {r : Bool} (h : Jad p0 p1 = some r) : FC env 89 [encF Yc p0, .int .i64 p1] none = some (.bool r, fun _ => none) := by
 unfold Jad at h
 cases h2 : zw p0 with
 | none => (rw [h2] at h; cases h)
 | some v3 =>
  simp only [h2] at h
  have f1 := Jfk h2
  by_cases c4 : (bnot v3) = true
  · rw [if_pos c4] at h
    cases h
    refine J9 (lf := lf89) rfl rfl rfl ?_
    simp only [lf89, lc89]
    rcases tof v3 with a5 | a5
    · simp [a5] at c4
    · simp (maxSteps := 4000000) [a5, f1]
  · rw [if_neg c4] at h
    rw [Bool.not_eq_true] at c4
    cases h7 : Kw p0 p1 with
    | none => (rw [h7] at h; cases h)
    | some v8 =>
     simp only [h7] at h
     have f6 := jx h7
     cases h
     refine J9 (lf := lf89) rfl rfl rfl ?_
     simp only [lf89, lc89]
     rcases tof v3 with a9 | a9
     · simp (maxSteps := 4000000) [a9, f1, f6]
     · simp [a9] at c4

/-! region.Contains -/
attribute [simp] c85_0 c85_1
def Xt (p0 : Jk) (p1 : Ja) : Option Bool := (match js p0 with
 | none => none
 | some v3 => (match gOpt v3 (Jbh p0 p1.Y) with
 | none => none
 | some v6 => (match gOpt v3 (Jad (v6.getD (FS.nil : (FS Kg))) p1.X) with
 | none => none
 | some v9 => some (band v3 (v9.getD false)))))
theorem Ja9 {p0 : Jk} {p1 : Ja} {r : Bool} (h : Xt p0 p1 = some r) : FC env 85 [.agg [encF Jl p0.Rows], .agg [.int .i64 p1.X, .int .i64 p1.Y]] none = some (.bool r, fun _ => none) := by
 unfold Xt at h
 cases h2 : js p0 with
 | none => (rw [h2] at h; cases h)
 | some v3 =>
  simp only [h2] at h
  have f1 := Jeg h2
  cases h5 : gOpt v3 (Jbh p0 p1.Y) with
  | none => (rw [h5] at h; cases h)
  | some v6 =>
   simp only [h5] at h
   have f4 := fun (q0 : v3 = true) => Jkn (Qk (FS.nil : (FS Kg)) h5 q0)
   cases h8 : gOpt v3 (Jad (v6.getD (FS.nil : (FS Kg))) p1.X) with
   | none => (rw [h8] at h; cases h)
   | some v9 =>
    simp only [h8] at h
    have f7 := fun (q0 : v3 = true) => Jhp (Qk false h8 q0)
    cases h
    refine J9 (lf := lf85) rfl rfl rfl ?_
    simp only [lf85, lc85]
    rcases tof v3 with a10 | a10
    · simp (maxSteps := 4000000) [a10, f1, f4, f7]
    · simp (maxSteps := 4000000) [a10, f1, f4, f7]

/-! comb.search -/
attribute [simp] c86_0 c86_1 c86_2 c86_3 c86_4 c86_5 c86_6 c86_7 c86_8 c86_9 Jza Jyv Jxe Jvx Jxh c86_17
theorem c86_L0_u (Γ : Env) (ps : List Nat) (σ : St) : EC Γ ps 0 Jhx σ = EC Γ ps 0 (.seq (.reg false c86_8) (.seq (.cond (.t 57) .skip (.seq (.trim [3, 5, 7, 8]) (.exit 2))) (.seq (.blk 3 (.seq (.reg false c86_9) (.seq (.reg false Jza) (.seq (.reg false Jyv) (.cond (.t 71) (.seq (.reg false Jxe) (.reg false Jvx)) .skip))))) (.reg false Jxh)))) σ := rfl
theorem c86_L1_u (Γ : Env) (ps : List Nat) (σ : St) : EC Γ ps 0 Jkd σ = EC Γ ps 0 (.seq (.seq (.reg false c86_3) (.cond (.t 22) .skip (.seq (.trim [7]) (.exit 0)))) (.blk 1 (.seq (.reg false c86_4) (.seq (.reg false c86_5) (.seq (.seq (.reg false c86_6) (.cond (.t 30) (.seq (.trim [7]) (.exit 0)) .skip)) (.seq (.reg false c86_7) (.blk 2 (.loop [3, 5, 7, 8, 9, 55, 56] Jhx)))))))) σ := rfl
attribute [simp ↓] c86_L0_u c86_L1_u
def Zb (k0 : Jk) (k1 : Ja) (k2 : Ja) (k3 : (A4 Ja)) (s : ((List (Ja × Ja)) × (FS Ja) × Int)) : Option (LR ((List (Ja × Ja)) × (FS Ja) × Int) ((List (Ja × Ja)) × (FS Ja))) := match s with
 | (s0, s1, s2) => (if (ilt s2 4) = true then (if inB s2 4 = true then (match gOpt (bnot (mhas Kv s0 (A4.get k3 s2))) (Xt k0 (A4.get k3 s2)) with
 | none => none
 | some v23 => (if (band (bnot (mhas Kv s0 (A4.get k3 s2))) (v23.getD false)) = true then (if fits 16 ((flen s1) + 1) = true then some (.nx ((mset Kv s0 (A4.get k3 s2) k2), (Zy s1 (A4.get k3 s2)), (iadd .i64 s2 1))) else none)
 else some (.nx (s0, s1, (iadd .i64 s2 1))))) else none)
 else some (.dn (s0, s1)))
def Xo (k0 : Jk) (k1 : Ja) (k2 : Ja) (k3 : (A4 Ja)) (s : ((List (Ja × Ja)) × (FS Ja) × Int)) : St := match s with
 | (s0, s1, s2) => ⟨fr [(3, .ptr 3 0 0), (5, .ptr 5 0 0), (7, .map 7 0), (8, .arr 8 0 0 s1.l.length), (9, .ptr 9 0 0), (55, .agg [.int .i64 k3.a0.X, .int .i64 k3.a0.Y, .int .i64 k3.a1.X, .int .i64 k3.a1.Y, .int .i64 k3.a2.X, .int .i64 k3.a2.Y, .int .i64 k3.a3.X, .int .i64 k3.a3.Y]), (56, .int .i64 s2)], hl [(3, .box 0 [encF Jl k0.Rows]), (5, .box 0 [.int .i64 k1.X, .int .i64 k1.Y]), (7, .map 0 (encM Yq Y5 s0) false), (8, .arr 0 2 27 (Jn Jh s1.l) false), (9, .box 0 [.int .i64 k2.X, .int .i64 k2.Y])]⟩
def j8 (k0 : Jk) (k1 : Ja) (k2 : Ja) (k3 : (A4 Ja)) (x : ((List (Ja × Ja)) × (FS Ja))) : LE × St := (.exit 2, ⟨fr [(3, .ptr 3 0 0), (5, .ptr 5 0 0), (7, .map 7 0), (8, .arr 8 0 0 x.2.l.length)], hl [(3, .box 0 [encF Jl k0.Rows]), (5, .box 0 [.int .i64 k1.X, .int .i64 k1.Y]), (7, .map 0 (encM Yq Y5 x.1) false), (8, .arr 0 2 27 (Jn Jh x.2.l) false)]⟩)
theorem Jgz {k0 : Jk} {k1 : Ja} {k2 : Ja} {k3 : (A4 Ja)} {s : ((List (Ja × Ja)) × (FS Ja) × Int)} {r : ((List (Ja × Ja)) × (FS Ja))} (h : Ku (Zb k0 k1 k2 k3) bigN s = some r) : LK env [] 0 [3, 5, 7, 8, 9, 55, 56] Jhx (some (Xo k0 k1 k2 k3 s)) = some (j8 k0 k1 k2 k3 r) := Q3 (st := Xo k0 k1 k2 k3) (out := j8 k0 k1 k2 k3) (by
 clear h s r
 rintro ⟨s0, s1, s2⟩ x h
 simp only [Zb] at h
 by_cases c19 : (ilt s2 4) = true
 · rw [if_pos c19] at h
   by_cases h21 : inB s2 4 = true
   · rw [if_pos h21] at h
     have f20 := @idx_in 4 s2 h21 2 true [.int .i64 k3.a0.X, .int .i64 k3.a0.Y, .int .i64 k3.a1.X, .int .i64 k3.a1.Y, .int .i64 k3.a2.X, .int .i64 k3.a2.Y, .int .i64 k3.a3.X, .int .i64 k3.a3.Y]
     have f20b := @pack_A4 _ _ Jh _ k3 _ h21 [] [] (by decide) true
     simp only [A4.toL, Jn, List.flatMap_cons, List.flatMap_nil, List.append_assoc, List.nil_append, List.cons_append, List.append_nil, List.length_cons, List.length_nil, Nat.zero_add, Jh] at f20b
     have f22 := Jms (ek := Yq) (ev := Y5) s0 (A4.get k3 s2) (⟨0, 0⟩ : Ja)
     simp only [Yq, Y5] at f22
     cases h24 : gOpt (bnot (mhas Kv s0 (A4.get k3 s2))) (Xt k0 (A4.get k3 s2)) with
     | none => (rw [h24] at h; cases h)
     | some v25 =>
      simp only [h24] at h
      have f23 := fun (q0 : (bnot (mhas Kv s0 (A4.get k3 s2))) = true) => Ja9 (Qk false h24 q0)
      by_cases c26 : (band (bnot (mhas Kv s0 (A4.get k3 s2))) (v25.getD false)) = true
      · rw [if_pos c26] at h
        have f27 := fun (H : Heap) hg => Jzw (ek := Yq) (ev := Y5) (h := H) (g := 7) (ver := 0) (es := s0) hg (A4.get k3 s2) k2
        simp only [Yq, Y5] at f27
        by_cases h29 : fits 16 ((flen s1) + 1) = true
        · rw [if_pos h29] at h
          have f28 := fun g0 H y => @j9 _ _ Jh _ s1 (A4.get k3 s2) 16 h29 (by decide) g0 H 8 0 27 y
          simp only [Jh] at f28
          cases h
          show LK env [] 0 [3, 5, 7, 8, 9, 55, 56] Jhx (some (Xo _ _ _ _ _)) = LK env [] 0 [3, 5, 7, 8, 9, 55, 56] Jhx (some (Xo _ _ _ _ _))
          simp only [Xo]
          rw [J4]
          rcases tof (mhas Kv s0 (A4.get k3 s2)) with a30 | a30
          · simp [c19, a30] at c26
          · rcases tof (v25.getD false) with a31 | a31
            · simp (maxSteps := 4000000) [c19, a30, a31, f20, f20b, f22, Jm3, f23, f27, f28]
            · simp [c19, a30, a31] at c26
        · rw [if_neg h29] at h; cases h
      · rw [if_neg c26] at h
        rw [Bool.not_eq_true] at c26
        cases h
        show LK env [] 0 [3, 5, 7, 8, 9, 55, 56] Jhx (some (Xo _ _ _ _ _)) = LK env [] 0 [3, 5, 7, 8, 9, 55, 56] Jhx (some (Xo _ _ _ _ _))
        simp only [Xo]
        rw [J4]
        rcases tof (mhas Kv s0 (A4.get k3 s2)) with a32 | a32
        · simp (maxSteps := 4000000) [c19, a32, f20, f20b, f22, Jm3, f23]
        · rcases tof (v25.getD false) with a33 | a33
          · simp [c19, a32, a33] at c26
          · simp (maxSteps := 4000000) [c19, a32, a33, f20, f20b, f22, Jm3, f23]
   · rw [if_neg h21] at h; cases h
 · rw [if_neg c19] at h
   rw [Bool.not_eq_true] at c19
   cases h
   show LK env [] 0 [3, 5, 7, 8, 9, 55, 56] Jhx (some (Xo _ _ _ _ _)) = some (j8 _ _ _ _ _)
   simp only [Xo, j8]
   rw [J4]
   simp (maxSteps := 4000000) [c19]) bigN s r h
def jd (k0 : Jk) (k1 : Ja) (s : ((List (Ja × Ja)) × (FS Ja))) : Option (LR ((List (Ja × Ja)) × (FS Ja)) (List (Ja × Ja))) := match s with
 | (s0, s1) => (if (igt (flen s1) 0) = true then (match fget s1 0 with
 | none => none
 | some v8 => (match fsl s1 1 (flen s1) with
 | none => none
 | some v15 => (if (band (ieq v8.X k1.X) (band (ieq v8.Y k1.Y) true)) = true then some (.dn s0)
 else (match Ku (Zb k0 k1 v8 (⟨(⟨(iadd .i64 v8.X 1), v8.Y⟩ : Ja), (⟨(isub .i64 v8.X 1), v8.Y⟩ : Ja), (⟨v8.X, (iadd .i64 v8.Y 1)⟩ : Ja), (⟨v8.X, (isub .i64 v8.Y 1)⟩ : Ja)⟩ : (A4 Ja))) bigN (s0, v15, 0) with
 | none => none
 | some v29 => some (.nx (v29.1, v29.2))))))
 else some (.dn s0))
def X0 (k0 : Jk) (k1 : Ja) (s : ((List (Ja × Ja)) × (FS Ja))) : St := match s with
 | (s0, s1) => ⟨fr [(3, .ptr 3 0 0), (5, .ptr 5 0 0), (7, .map 7 0), (8, .arr 8 0 0 s1.l.length)], hl [(3, .box 0 [encF Jl k0.Rows]), (5, .box 0 [.int .i64 k1.X, .int .i64 k1.Y]), (7, .map 0 (encM Yq Y5 s0) false), (8, .arr 0 2 27 (Jn Jh s1.l) false)]⟩
def Zk (k0 : Jk) (k1 : Ja) (x : (List (Ja × Ja))) : LE × St := (.exit 0, ⟨fr [(7, .map 7 0)], hl [(7, .map 0 (encM Yq Y5 x) false)]⟩)
theorem Jg5 {k0 : Jk} {k1 : Ja} {s : ((List (Ja × Ja)) × (FS Ja))} {r : (List (Ja × Ja))} (h : Ku (jd k0 k1) bigN s = some r) : LK env [] 0 [3, 5, 7, 8] Jkd (some (X0 k0 k1 s)) = some (Zk k0 k1 r) := Q3 (st := X0 k0 k1) (out := Zk k0 k1) (by
 clear h s r
 rintro ⟨s0, s1⟩ x h
 simp only [jd] at h
 by_cases c4 : (igt (flen s1) 0) = true
 · rw [if_pos c4] at h
   cases h7 : fget s1 0 with
   | none => (rw [h7] at h; cases h)
   | some v8 =>
    simp only [h7] at h
    have f5 := Y3 (w := 2) h7
    have f6 := h7
    have f9 := (Z1 (e := Jh) f6 true 2 (by decide) (by decide))
    simp only [Jh] at f9
    cases h14 : fsl s1 1 (flen s1) with
    | none => (rw [h14] at h; cases h)
    | some v15 =>
     simp only [h14] at h
     have f12 := Jbd (e := Jh) h14
     try simp only [Int.reduceToNat, Nat.reduceMul, Nat.one_mul, Nat.mul_one] at f12
     have f13 := Jcn h14 2
     try simp only [Int.reduceToNat, Nat.reduceMul, Nat.one_mul, Nat.mul_one] at f13
     have f10 := Jcu (w := 2) h14
     try simp only [Int.reduceToNat, Nat.reduceMul, Nat.one_mul, Nat.mul_one] at f10
     have f11 := h14
     by_cases c16 : (band (ieq v8.X k1.X) (band (ieq v8.Y k1.Y) true)) = true
     · rw [if_pos c16] at h
       cases h
       show LK env [] 0 [3, 5, 7, 8] Jkd (some (X0 _ _ _)) = some (Zk _ _ _)
       simp only [X0, Zk]
       rw [J4]
       rcases tof (ieq v8.X k1.X) with a17 | a17
       · rcases tof (ieq v8.Y k1.Y) with a18 | a18
         · simp (maxSteps := 4000000) [c4, a17, a18, f5, f9, f12, f13, f10]
         · simp [c4, a17, a18] at c16
       · simp [c4, a17] at c16
     · rw [if_neg c16] at h
       rw [Bool.not_eq_true] at c16
       cases h34 : Ku (Zb k0 k1 v8 (⟨(⟨(iadd .i64 v8.X 1), v8.Y⟩ : Ja), (⟨(isub .i64 v8.X 1), v8.Y⟩ : Ja), (⟨v8.X, (iadd .i64 v8.Y 1)⟩ : Ja), (⟨v8.X, (isub .i64 v8.Y 1)⟩ : Ja)⟩ : (A4 Ja))) bigN (s0, v15, 0) with
       | none => (rw [h34] at h; cases h)
       | some v35 =>
        simp only [h34] at h
        have f36 := Jgz h34
        simp only [Xo, j8, J8] at f36
        try simp only [Jj, Ji, Jm, Jw, Jt, Ju, Jv, Js] at f36
        cases h
        show LK env [] 0 [3, 5, 7, 8] Jkd (some (X0 _ _ _)) = LK env [] 0 [3, 5, 7, 8] Jkd (some (X0 _ _ _))
        simp only [X0]
        rw [J4]
        rcases tof (ieq v8.X k1.X) with a38 | a38
        · rcases tof (ieq v8.Y k1.Y) with a39 | a39
          · simp [c4, a38, a39] at c16
          · try simp only [c4, a38, a39] at f36
            simp (maxSteps := 4000000) [c4, a38, a39, f5, f9, f12, f13, f10, f36]
        · try simp only [c4, a38] at f36
          simp (maxSteps := 4000000) [c4, a38, f5, f9, f12, f13, f10, f36]
 · rw [if_neg c4] at h
   rw [Bool.not_eq_true] at c4
   cases h
   show LK env [] 0 [3, 5, 7, 8] Jkd (some (X0 _ _ _)) = some (Zk _ _ _)
   simp only [X0, Zk]
   rw [J4]
   simp (maxSteps := 4000000) [c4]) bigN s r h
def Ja1 (p0 : Jk) (p1 : Ja) (p2 : Ja) : Option (List (Ja × Ja)) := (match Ku (jd p0 p2) bigN ((mset Kv ([] : (List (Ja × Ja))) p1 p1), (flit ([p1] : List Ja))) with
 | none => none
 | some v32 => some v32)
theorem Jje {p0 : Jk} {p1 : Ja} {p2 : Ja} {r : (List (Ja × Ja))} (h : Ja1 p0 p1 p2 = some r) : FC env 86 [.agg [encF Jl p0.Rows], .agg [.int .i64 p1.X, .int .i64 p1.Y], .agg [.int .i64 p2.X, .int .i64 p2.Y]] none = some (Jgt Yq Y5 r, fun _ => none) := by
 unfold Ja1 at h
 have f1 := mkM_enc (ek := Yq) (ev := Y5)
 have f2 := fun (H : Heap) hg => Jzw (ek := Yq) (ev := Y5) (h := H) (g := 14) (ver := 0) (es := ([] : (List (Ja × Ja)))) hg p1 p1
 simp only [Yq, Y5] at f2
 have f3 : ∀ (H : Heap) (g0 : Nat), bslV H g0 1 2 27 (some [.int .i64 p1.X, .int .i64 p1.Y]) = some (.arr g0 (K7 H g0) 0 (flit ([p1] : List Ja)).l.length, upd H g0 (some (.arr (K7 H g0) 2 27 (Jn Jh (flit ([p1] : List Ja)).l) false))) := fun H g0 => rfl
 cases h40 : Ku (jd p0 p2) bigN ((mset Kv ([] : (List (Ja × Ja))) p1 p1), (flit ([p1] : List Ja))) with
 | none => (rw [h40] at h; cases h)
 | some v41 =>
  simp only [h40] at h
  have f42 := Jg5 h40
  simp only [X0, Zk, J8] at f42
  try simp only [Jj, Ji, Jm, Jw, Jt, Ju, Jv, Js] at f42
  have f44 := fun (H : Heap) (g w : Nat) hg => J0s (ek := Yq) (ev := Y5) (es := v41) (h := H) (g := g) (ver := w) hg
  cases h
  refine J9 (lf := lf86) rfl rfl rfl ?_
  simp only [lf86, lc86]
  simp (maxSteps := 4000000) [f1, f2, f3, -Jqu, f42, f44]

/-! slices.Reverse_api_Cell_api_Cell -/
attribute [simp] c87_0 c87_1 c87_2 c87_3
theorem c87_L0_u (Γ : Env) (ps : List Nat) (σ : St) : EC Γ ps 0 Jly σ = EC Γ ps 0 (.seq (.seq (.reg false c87_1) (.cond (.t 9) .skip (.seq (.trim []) (.exit 0)))) (.seq (.blk 1 (.reg true c87_2)) (.reg false c87_3))) σ := rfl
attribute [simp ↓] c87_L0_u
def K6  (s : ((FS Ja) × Int × Int)) : Option (LR ((FS Ja) × Int × Int) (FS Ja)) := match s with
 | (s0, s1, s2) => (if (ilt s1 s2) = true then (match fget s0 s2 with
 | none => none
 | some v5 => (match fget s0 s1 with
 | none => none
 | some v10 => (match fget (fset s0 s1 v5) s2 with
 | none => none
 | some v19 => some (.nx ((fset (fset s0 s1 v5) s2 v10), (iadd .i64 s1 1), (isub .i64 s2 1))))))
 else some (.dn s0))
def Kn  (s : ((FS Ja) × Int × Int)) : St := match s with
 | (s0, s1, s2) => ⟨fr [(0, .arr 0 0 0 s0.l.length), (2, .int .i64 s1), (3, .int .i64 s2)], hl [(0, .arr 0 2 27 (Jn Jh s0.l) false)]⟩
def Qs  (x : (FS Ja)) : LE × St := (.exit 0, ⟨fr [], hl [(0, .arr 0 2 27 (Jn Jh x.l) false)]⟩)
theorem Jau  {s : ((FS Ja) × Int × Int)} {r : (FS Ja)} (h : Ku (K6 ) bigN s = some r) : LK env [0] 0 [0, 2, 3] Jly (some (Kn  s)) = some (Qs  r) := Q3 (st := Kn ) (out := Qs ) (by
 clear h s r
 rintro ⟨s0, s1, s2⟩ x h
 simp only [K6] at h
 by_cases c1 : (ilt s1 s2) = true
 · rw [if_pos c1] at h
   cases h4 : fget s0 s2 with
   | none => (rw [h4] at h; cases h)
   | some v5 =>
    simp only [h4] at h
    have f2 := Y3 (w := 2) h4
    have f3 := h4
    have f6 := (Z1 (e := Jh) f3 true 2 (by decide) (by decide))
    simp only [Jh] at f6
    cases h9 : fget s0 s1 with
    | none => (rw [h9] at h; cases h)
    | some v10 =>
     simp only [h9] at h
     have f7 := Y3 (w := 2) h9
     have f8 := h9
     have f11 := (Z1 (e := Jh) f8 true 2 (by decide) (by decide))
     simp only [Jh] at f11
     have f14 := @Jd5 _ _ Jh _ s0 s1 v10 v5 f8 [.int .i64 v5.X, .int .i64 v5.Y] (by simp) (by simp [Jh])
     have f15 := Jku (w := 2) f8 2 (by decide)
     try simp at f15
     cases h18 : fget (fset s0 s1 v5) s2 with
     | none => (rw [h18] at h; cases h)
     | some v19 =>
      simp only [h18] at h
      have f16 := Y3 (w := 2) h18
      try simp only [J8] at f16
      have f17 := h18
      have f20 := @Jd5 _ _ Jh _ (fset s0 s1 v5) s2 v19 v10 f17 [.int .i64 v10.X, .int .i64 v10.Y] (by simp) (by simp [Jh])
      have f21 := Jku (w := 2) f17 2 (by decide)
      try simp at f21
      cases h
      show LK env [0] 0 [0, 2, 3] Jly (some (Kn  _)) = LK env [0] 0 [0, 2, 3] Jly (some (Kn  _))
      simp only [Kn]
      rw [J4]
      simp (maxSteps := 4000000) [c1, f2, f6, f7, f11, f14, f15, f16, f20, f21]
 · rw [if_neg c1] at h
   rw [Bool.not_eq_true] at c1
   cases h
   show LK env [0] 0 [0, 2, 3] Jly (some (Kn  _)) = some (Qs  _)
   simp only [Kn, Qs]
   rw [J4]
   simp (maxSteps := 4000000) [c1]) bigN s r h
def Qx (p0 : (FS Ja)) : Option (FS Ja) := (match Ku (K6) bigN (p0, 0, (isub .i64 (flen p0) 1)) with
 | none => none
 | some v23 => some v23)
theorem Ja7 {p0 : (FS Ja)} {r : (FS Ja)} (h : Qx p0 = some r) : FC env 87 [.arr 0 0 0 p0.l.length] (some (hl [(0, .arr 0 2 27 (Jn Jh p0.l) false)], 0)) = some (.tup [], hl [(0, .arr 0 2 27 (Jn Jh r.l) false)]) := by
 unfold Qx at h
 cases h22 : Ku (K6) bigN (p0, 0, (isub .i64 (flen p0) 1)) with
 | none => (rw [h22] at h; cases h)
 | some v23 =>
  simp only [h22] at h
  have f24 := Jau h22
  simp only [Kn, Qs, J8] at f24
  try simp only [Jj, Ji, Jm, Jw, Jt, Ju, Jv, Js] at f24
  cases h
  refine Zr (lf := lf87) rfl rfl rfl ?_
  simp only [lf87, lc87]
  simp (maxSteps := 4000000) [f24]

/-! comb.Path -/
attribute [simp] c79_0 c79_1 c79_2 c79_3 c79_4 c79_5 c79_6 c79_7 c79_8 c79_9 Jv4 Jvc Jve Jxq c79_15 c79_16
theorem c79_L0_u (Γ : Env) (ps : List Nat) (σ : St) : EC Γ ps 0 Jmf σ = EC Γ ps 0 (.seq (.seq (.reg false c79_9) (.cond (.t 40) .skip (.seq (.trim [11]) (.exit 0)))) (.seq (.blk 1 (.seq (.reg false Jv4) (.reg false Jvc))) (.seq (.reg false Jve) (.reg false Jxq)))) σ := rfl
attribute [simp ↓] c79_L0_u
def zh (k0 : Ja) (k1 : (List (Ja × Ja))) (s : ((FS Ja) × Ja)) : Option (LR ((FS Ja) × Ja) (FS Ja)) := match s with
 | (s0, s1) => (if (bnot (band (ieq s1.X k0.X) (band (ieq s1.Y k0.Y) true))) = true then (if fits 16 ((flen s0) + 1) = true then some (.nx ((Zy s0 (mget Kv k1 s1 (⟨0, 0⟩ : Ja))), (mget Kv k1 s1 (⟨0, 0⟩ : Ja)))) else none)
 else some (.dn s0))
def Zt (k0 : Ja) (k1 : (List (Ja × Ja))) (s : ((FS Ja) × Ja)) : St := match s with
 | (s0, s1) => ⟨fr [(4, .ptr 4 0 0), (8, Jgt Yq Y5 k1), (11, .arr 11 0 0 s0.l.length), (12, .ptr 12 0 0)], hl [(4, .box 0 [.int .i64 k0.X, .int .i64 k0.Y]), (11, .arr 0 2 27 (Jn Jh s0.l) false), (12, .box 0 [.int .i64 s1.X, .int .i64 s1.Y])]⟩
def z1 (k0 : Ja) (k1 : (List (Ja × Ja))) (x : (FS Ja)) : LE × St := (.exit 0, ⟨fr [(11, .arr 11 0 0 x.l.length)], hl [(11, .arr 0 2 27 (Jn Jh x.l) false)]⟩)
theorem Jil {k0 : Ja} {k1 : (List (Ja × Ja))} {s : ((FS Ja) × Ja)} {r : (FS Ja)} (h : Ku (zh k0 k1) bigN s = some r) : LK env [] 0 [4, 8, 11, 12] Jmf (some (Zt k0 k1 s)) = some (z1 k0 k1 r) := Q3 (st := Zt k0 k1) (out := z1 k0 k1) (by
 clear h s r
 rintro ⟨s0, s1⟩ x h
 simp only [zh] at h
 by_cases c19 : (bnot (band (ieq s1.X k0.X) (band (ieq s1.Y k0.Y) true))) = true
 · rw [if_pos c19] at h
   have f20 := look_enc (ek := Yq) (ev := Y5) k1 s1 (⟨0, 0⟩ : Ja)
   simp only [Yq, Y5] at f20
   by_cases h22 : fits 16 ((flen s0) + 1) = true
   · rw [if_pos h22] at h
     have f21 := fun g0 H y => @j9 _ _ Jh _ s0 (mget Kv k1 s1 (⟨0, 0⟩ : Ja)) 16 h22 (by decide) g0 H 11 0 27 y
     simp only [Jh] at f21
     cases h
     show LK env [] 0 [4, 8, 11, 12] Jmf (some (Zt _ _ _)) = LK env [] 0 [4, 8, 11, 12] Jmf (some (Zt _ _ _))
     simp only [Zt]
     rw [J4]
     rcases tof (ieq s1.X k0.X) with a23 | a23
     · rcases tof (ieq s1.Y k0.Y) with a24 | a24
       · simp [a23, a24] at c19
       · simp (maxSteps := 4000000) [a23, a24, f20, es_MP, f21]
     · simp (maxSteps := 4000000) [a23, f20, es_MP, f21]
   · rw [if_neg h22] at h; cases h
 · rw [if_neg c19] at h
   rw [Bool.not_eq_true] at c19
   cases h
   show LK env [] 0 [4, 8, 11, 12] Jmf (some (Zt _ _ _)) = some (z1 _ _ _)
   simp only [Zt, z1]
   rw [J4]
   rcases tof (ieq s1.X k0.X) with a25 | a25
   · rcases tof (ieq s1.Y k0.Y) with a26 | a26
     · simp (maxSteps := 4000000) [a25, a26]
     · simp [a25, a26] at c19
   · simp [a25] at c19) bigN s r h
def Jak (p0 : Jk) (p1 : Ja) (p2 : Ja) : Option ((FS Ja) × Bool) := (match Xt p0 p1 with
 | none => none
 | some v3 => (match gOpt (bnot (bnot v3)) (Xt p0 p2) with
 | none => none
 | some v6 => (if (bor (bnot v3) (bnot (v6.getD false))) = true then some ((FS.nil : (FS Ja)), false)
 else (match Ja1 p0 p1 p2 with
 | none => none
 | some v10 => (if (bnot (mhas Kv v10 p2)) = true then some ((FS.nil : (FS Ja)), false)
 else (match Ku (zh p1 v10) bigN ((flit ([p2] : List Ja)), p2) with
 | none => none
 | some v19 => (match Qx v19 with
 | none => none
 | some v22 => (if ieq (flen v22) (flen v19) = true then some ((flst v22), true) else none))))))))
theorem Jgf {p0 : Jk} {p1 : Ja} {p2 : Ja} {r : ((FS Ja) × Bool)} (h : Jak p0 p1 p2 = some r) : FC env 79 [.agg [encF Jl p0.Rows], .agg [.int .i64 p1.X, .int .i64 p1.Y], .agg [.int .i64 p2.X, .int .i64 p2.Y]] none = some (.tup [encF Jh r.1, .bool r.2], fun _ => none) := by
 unfold Jak at h
 cases h2 : Xt p0 p1 with
 | none => (rw [h2] at h; cases h)
 | some v3 =>
  simp only [h2] at h
  have f1 := Ja9 h2
  cases h5 : gOpt (bnot (bnot v3)) (Xt p0 p2) with
  | none => (rw [h5] at h; cases h)
  | some v6 =>
   simp only [h5] at h
   have f4 := fun (q0 : (bnot v3) = false) => Ja9 (Qk false h5 (Zj q0))
   by_cases c7 : (bor (bnot v3) (bnot (v6.getD false))) = true
   · rw [if_pos c7] at h
     cases h
     refine J9 (lf := lf79) rfl rfl rfl ?_
     simp only [lf79, lc79]
     rcases tof v3 with a8 | a8
     · rcases tof (v6.getD false) with a9 | a9
       · simp [a8, a9] at c7
       · simp (maxSteps := 4000000) [a8, a9, f1, f4, jk, tupS, Z5, Zc, Z9, Zf, Z2]
     · simp (maxSteps := 4000000) [a8, f1, f4, jk, tupS, Z5, Zc, Z9, Zf, Z2]
   · rw [if_neg c7] at h
     rw [Bool.not_eq_true] at c7
     cases h11 : Ja1 p0 p1 p2 with
     | none => (rw [h11] at h; cases h)
     | some v12 =>
      simp only [h11] at h
      have f10 := Jje h11
      have f13 := Jms (ek := Yq) (ev := Y5) v12 p2 (⟨0, 0⟩ : Ja)
      simp only [Yq, Y5] at f13
      by_cases c14 : (bnot (mhas Kv v12 p2)) = true
      · rw [if_pos c14] at h
        cases h
        refine J9 (lf := lf79) rfl rfl rfl ?_
        simp only [lf79, lc79]
        rcases tof v3 with a15 | a15
        · rcases tof (v6.getD false) with a16 | a16
          · rcases tof (mhas Kv v12 p2) with a17 | a17
            · simp [a15, a16, a17] at c14
            · simp (maxSteps := 4000000) [a15, a16, a17, f1, f4, f10, f13, es_MP, jk, tupS, Z5, Zc, Z9, Zf, Z2]
          · simp [a15, a16] at c7
        · simp [a15] at c7
      · rw [if_neg c14] at h
        rw [Bool.not_eq_true] at c14
        have f18 : ∀ (H : Heap) (g0 : Nat), bslV H g0 1 2 27 (some [.int .i64 p2.X, .int .i64 p2.Y]) = some (.arr g0 (K7 H g0) 0 (flit ([p2] : List Ja)).l.length, upd H g0 (some (.arr (K7 H g0) 2 27 (Jn Jh (flit ([p2] : List Ja)).l) false))) := fun H g0 => rfl
        cases h27 : Ku (zh p1 v12) bigN ((flit ([p2] : List Ja)), p2) with
        | none => (rw [h27] at h; cases h)
        | some v28 =>
         simp only [h27] at h
         have f29 := Jil h27
         simp only [Zt, z1, J8] at f29
         try simp only [Jj, Ji, Jm, Jw, Jt, Ju, Jv, Js] at f29
         cases h31 : Qx v28 with
         | none => (rw [h31] at h; cases h)
         | some v32 =>
          simp only [h31] at h
          have f33 := Ja7 h31
          try simp only [J8, Xs, Jj, Ji, Jm, Jw, Jt, Ju, Jv, Js] at f33
          by_cases h34 : ieq (flen v32) (flen v28) = true
          · rw [if_pos h34] at h
            have h35 : v28.l.length = v32.l.length := len_of h34
            try simp only [h35] at f1 f4 f10 f13 f18 f29 f33
            try simp only [Jj, Ji, Jm, Jw, Jt, Ju, Jv, Js] at f33
            have f36 : ∀ H : Heap, H 11 = some (.arr 0 2 27 (Jn Jh v28.l) false) → jt (FC env) 87 H [.arr 11 0 0 v28.l.length] = some (.tup [], upd H 11 (some (.arr 0 2 27 (Jn Jh v32.l) false))) := by
              intro H q0
              simp (maxSteps := 4000000) [q0, f33, h35]
            try simp only [h35] at f36
            cases h
            refine J9 (lf := lf79) rfl rfl rfl ?_
            simp only [lf79, lc79]
            rcases tof v3 with a37 | a37
            · rcases tof (v6.getD false) with a38 | a38
              · rcases tof (mhas Kv v12 p2) with a39 | a39
                · try simp only [a37, a38, a39] at f29 f33
                  simp (maxSteps := 4000000) [-Qq, a37, a38, a39, f1, f4, f10, f13, es_MP, f18, -Jqu, f29, h35, f36, f33, Je9 (e := Jh) (el := 27) (fz := false), jk, tupS, Z5, Zc, Z9, Zf, Z2]
                · simp [a37, a38, a39] at c14
              · simp [a37, a38] at c7
            · simp [a37] at c7
          · rw [if_neg h34] at h; cases h

/-! comb.ok -/
attribute [simp] c88_0 c88_1
def zn (p0 : Ja) : Bool := (band (band (band (ige p0.X (-4096)) (ilt p0.X 4096)) (ige p0.Y (-4096))) (ilt p0.Y 4096))
def t_comb_ok (p0 : Ja) : Option Bool := some (zn p0)
theorem Jiw (p0 : Ja) : FC env 88 [.agg [.int .i64 p0.X, .int .i64 p0.Y]] none = some (.bool (zn p0), fun _ => none) := by
 unfold zn
 refine J9 (lf := lf88) rfl rfl rfl ?_
 simp only [lf88, lc88]
 rcases tof (ige p0.X (-4096)) with a1 | a1
 · rcases tof (ilt p0.X 4096) with a2 | a2
   · rcases tof (ige p0.Y (-4096)) with a3 | a3
     · simp (maxSteps := 4000000) [a1, a2, a3]
     · simp (maxSteps := 4000000) [a1, a2, a3]
   · simp (maxSteps := 4000000) [a1, a2]
 · simp (maxSteps := 4000000) [a1]
/-! comb.Straight -/
attribute [simp] c80_0 c80_1 c80_2 c80_3 c80_4 c80_5 c80_6 c80_7 c80_8 c80_9 Jvm Jzf Jzq c80_14
theorem c80_L0_u (Γ : Env) (ps : List Nat) (σ : St) : EC Γ ps 0 Je1 σ = EC Γ ps 0 (.seq (.seq (.reg false c80_4) (.cond (.t 18) .skip (.seq (.trim [5]) (.exit 0)))) (.blk 1 (.seq (.blk 2 (.seq (.reg false c80_5) (.cond (.t 23) (.reg false c80_6) (.seq (.reg false c80_7) (.cond (.t 33) (.reg false c80_8) (.seq (.reg false c80_9) (.cond (.t 43) (.reg false Jvm) (.reg false Jzf)))))))) (.reg false Jzq)))) σ := rfl
attribute [simp ↓] c80_L0_u
def Z7 (k0 : Ja) (s : (Ja × (FS Ja))) : Option (LR (Ja × (FS Ja)) (FS Ja)) := match s with
 | (s0, s1) => (if (bnot (band (ieq s0.X k0.X) (band (ieq s0.Y k0.Y) true))) = true then (if (ilt s0.X k0.X) = true then (if fits 16 ((flen s1) + 1) = true then some (.nx ((⟨(iadd .i64 s0.X 1), s0.Y⟩ : Ja), (Zy s1 (⟨(iadd .i64 s0.X 1), s0.Y⟩ : Ja)))) else none)
 else (if (igt s0.X k0.X) = true then (if fits 16 ((flen s1) + 1) = true then some (.nx ((⟨(isub .i64 s0.X 1), s0.Y⟩ : Ja), (Zy s1 (⟨(isub .i64 s0.X 1), s0.Y⟩ : Ja)))) else none)
 else (if (ilt s0.Y k0.Y) = true then (if fits 16 ((flen s1) + 1) = true then some (.nx ((⟨s0.X, (iadd .i64 s0.Y 1)⟩ : Ja), (Zy s1 (⟨s0.X, (iadd .i64 s0.Y 1)⟩ : Ja)))) else none)
 else (if fits 16 ((flen s1) + 1) = true then some (.nx ((⟨s0.X, (isub .i64 s0.Y 1)⟩ : Ja), (Zy s1 (⟨s0.X, (isub .i64 s0.Y 1)⟩ : Ja)))) else none))))
 else some (.dn s1))
def Kp (k0 : Ja) (s : (Ja × (FS Ja))) : St := match s with
 | (s0, s1) => ⟨fr [(2, .ptr 2 0 0), (3, .ptr 3 0 0), (5, .arr 5 0 0 s1.l.length)], hl [(2, .box 0 [.int .i64 s0.X, .int .i64 s0.Y]), (3, .box 0 [.int .i64 k0.X, .int .i64 k0.Y]), (5, .arr 0 2 27 (Jn Jh s1.l) false)]⟩
def jl (k0 : Ja) (x : (FS Ja)) : LE × St := (.exit 0, ⟨fr [(5, .arr 5 0 0 x.l.length)], hl [(5, .arr 0 2 27 (Jn Jh x.l) false)]⟩)
theorem Jf0 {k0 : Ja} {s : (Ja × (FS Ja))} {r : (FS Ja)} (h : Ku (Z7 k0) bigN s = some r) : LK env [] 0 [2, 3, 5] Je1 (some (Kp k0 s)) = some (jl k0 r) := Q3 (st := Kp k0) (out := jl k0) (by
 clear h s r
 rintro ⟨s0, s1⟩ x h
 simp only [Z7] at h
 by_cases c7 : (bnot (band (ieq s0.X k0.X) (band (ieq s0.Y k0.Y) true))) = true
 · rw [if_pos c7] at h
   by_cases c8 : (ilt s0.X k0.X) = true
   · rw [if_pos c8] at h
     by_cases h10 : fits 16 ((flen s1) + 1) = true
     · rw [if_pos h10] at h
       have f9 := fun g0 H y => @j9 _ _ Jh _ s1 (⟨(iadd .i64 s0.X 1), s0.Y⟩ : Ja) 16 h10 (by decide) g0 H 5 0 27 y
       simp only [Jh] at f9
       cases h
       show LK env [] 0 [2, 3, 5] Je1 (some (Kp _ _)) = LK env [] 0 [2, 3, 5] Je1 (some (Kp _ _))
       simp only [Kp]
       rw [J4]
       rcases tof (ieq s0.X k0.X) with a11 | a11
       · rcases tof (ieq s0.Y k0.Y) with a12 | a12
         · simp [a11, a12] at c7
         · simp (maxSteps := 4000000) [a11, a12, c8, f9]
       · simp (maxSteps := 4000000) [a11, c8, f9]
     · rw [if_neg h10] at h; cases h
   · rw [if_neg c8] at h
     rw [Bool.not_eq_true] at c8
     by_cases c13 : (igt s0.X k0.X) = true
     · rw [if_pos c13] at h
       by_cases h15 : fits 16 ((flen s1) + 1) = true
       · rw [if_pos h15] at h
         have f14 := fun g0 H y => @j9 _ _ Jh _ s1 (⟨(isub .i64 s0.X 1), s0.Y⟩ : Ja) 16 h15 (by decide) g0 H 5 0 27 y
         simp only [Jh] at f14
         cases h
         show LK env [] 0 [2, 3, 5] Je1 (some (Kp _ _)) = LK env [] 0 [2, 3, 5] Je1 (some (Kp _ _))
         simp only [Kp]
         rw [J4]
         rcases tof (ieq s0.X k0.X) with a16 | a16
         · rcases tof (ieq s0.Y k0.Y) with a17 | a17
           · simp [a16, a17] at c7
           · simp (maxSteps := 4000000) [a16, a17, c8, c13, f14]
         · simp (maxSteps := 4000000) [a16, c8, c13, f14]
       · rw [if_neg h15] at h; cases h
     · rw [if_neg c13] at h
       rw [Bool.not_eq_true] at c13
       by_cases c18 : (ilt s0.Y k0.Y) = true
       · rw [if_pos c18] at h
         by_cases h20 : fits 16 ((flen s1) + 1) = true
         · rw [if_pos h20] at h
           have f19 := fun g0 H y => @j9 _ _ Jh _ s1 (⟨s0.X, (iadd .i64 s0.Y 1)⟩ : Ja) 16 h20 (by decide) g0 H 5 0 27 y
           simp only [Jh] at f19
           cases h
           show LK env [] 0 [2, 3, 5] Je1 (some (Kp _ _)) = LK env [] 0 [2, 3, 5] Je1 (some (Kp _ _))
           simp only [Kp]
           rw [J4]
           rcases tof (ieq s0.X k0.X) with a21 | a21
           · rcases tof (ieq s0.Y k0.Y) with a22 | a22
             · simp [a21, a22] at c7
             · simp (maxSteps := 4000000) [a21, a22, c8, c13, c18, f19]
           · simp (maxSteps := 4000000) [a21, c8, c13, c18, f19]
         · rw [if_neg h20] at h; cases h
       · rw [if_neg c18] at h
         rw [Bool.not_eq_true] at c18
         by_cases h24 : fits 16 ((flen s1) + 1) = true
         · rw [if_pos h24] at h
           have f23 := fun g0 H y => @j9 _ _ Jh _ s1 (⟨s0.X, (isub .i64 s0.Y 1)⟩ : Ja) 16 h24 (by decide) g0 H 5 0 27 y
           simp only [Jh] at f23
           cases h
           show LK env [] 0 [2, 3, 5] Je1 (some (Kp _ _)) = LK env [] 0 [2, 3, 5] Je1 (some (Kp _ _))
           simp only [Kp]
           rw [J4]
           rcases tof (ieq s0.X k0.X) with a25 | a25
           · rcases tof (ieq s0.Y k0.Y) with a26 | a26
             · simp [a25, a26] at c7
             · simp (maxSteps := 4000000) [a25, a26, c8, c13, c18, f23]
           · simp (maxSteps := 4000000) [a25, c8, c13, c18, f23]
         · rw [if_neg h24] at h; cases h
 · rw [if_neg c7] at h
   rw [Bool.not_eq_true] at c7
   cases h
   show LK env [] 0 [2, 3, 5] Je1 (some (Kp _ _)) = some (jl _ _)
   simp only [Kp, jl]
   rw [J4]
   rcases tof (ieq s0.X k0.X) with a27 | a27
   · rcases tof (ieq s0.Y k0.Y) with a28 | a28
     · simp (maxSteps := 4000000) [a27, a28]
     · simp [a27, a28] at c7
   · simp [a27] at c7) bigN s r h
def zi (p0 : Ja) (p1 : Ja) : Option (FS Ja) := (if (bor (bnot (zn p0)) (bnot (zn p1))) = true then some (FS.nil : (FS Ja))
 else (match Ku (Z7 p1) bigN (p0, (flit ([p0] : List Ja))) with
 | none => none
 | some v18 => some (flst v18)))
theorem Jdm {p0 : Ja} {p1 : Ja} {r : (FS Ja)} (h : zi p0 p1 = some r) : FC env 80 [.agg [.int .i64 p0.X, .int .i64 p0.Y], .agg [.int .i64 p1.X, .int .i64 p1.Y]] none = some (encF Jh r, fun _ => none) := by
 unfold zi at h
 have f1 := Jiw p0
 have f2 := Jiw p1
 by_cases c3 : (bor (bnot (zn p0)) (bnot (zn p1))) = true
 · rw [if_pos c3] at h
   cases h
   refine J9 (lf := lf80) rfl rfl rfl ?_
   simp only [lf80, lc80]
   rcases tof (zn p0) with a4 | a4
   · rcases tof (zn p1) with a5 | a5
     · simp [a4, a5] at c3
     · simp (maxSteps := 4000000) [a4, a5, f1, f2]
   · simp (maxSteps := 4000000) [a4, f1, f2]
 · rw [if_neg c3] at h
   rw [Bool.not_eq_true] at c3
   have f6 : ∀ (H : Heap) (g0 : Nat), bslV H g0 1 2 27 (some [.int .i64 p0.X, .int .i64 p0.Y]) = some (.arr g0 (K7 H g0) 0 (flit ([p0] : List Ja)).l.length, upd H g0 (some (.arr (K7 H g0) 2 27 (Jn Jh (flit ([p0] : List Ja)).l) false))) := fun H g0 => rfl
   cases h29 : Ku (Z7 p1) bigN (p0, (flit ([p0] : List Ja))) with
   | none => (rw [h29] at h; cases h)
   | some v30 =>
    simp only [h29] at h
    have f31 := Jf0 h29
    simp only [Kp, jl, J8] at f31
    try simp only [Jj, Ji, Jm, Jw, Jt, Ju, Jv, Js] at f31
    cases h
    refine J9 (lf := lf80) rfl rfl rfl ?_
    simp only [lf80, lc80]
    rcases tof (zn p0) with a33 | a33
    · rcases tof (zn p1) with a34 | a34
      · try simp only [a33, a34] at f31
        simp (maxSteps := 4000000) [a33, a34, f1, f2, f6, -Jqu, f31, Yd (e := Jh) (el := 27) (fz := false)]
      · simp [a33, a34] at c3
    · simp [a33] at c3

/-! toolpath.builder).travel -/
attribute [simp] c66_0 c66_1 c66_2 c66_3 c66_4 c66_5 c66_6 c66_7 c66_8 c66_9 c66_10 c66_11 c66_12
def Qw (p0 : Jd) (p1 : Ja) : Option Jd := (if (band (ieq p0.nozzle.X p1.X) (band (ieq p0.nozzle.Y p1.Y) true)) = true then some (⟨(⟨p0.list.ops⟩ : Jp), p0.r, p0.s, p0.nozzle⟩ : Jd)
 else (Jdo (Qf (⟨(⟨p0.list.ops⟩ : Jp), p0.r, p0.s, p0.nozzle⟩ : Jd) p0.s.Travel) fun v4 => (Jdo (Jak p0.r p0.nozzle p1) fun v7 => (if (bnot v7.2) = true then (Jdo (zi p0.nozzle p1) fun v11 => (Jdo (fsl v11 1 (flen v11)) fun v14 => (if (band (bnot v7.2) (ine p0.s.Retract 0)) = true then (Jdo (Je (⟨(⟨p0.list.ops⟩ : Jp), p0.r, p0.s, p0.nozzle⟩ : Jd) (⟨4, 0, 0, 0, 0, (FS.nil : (FS Ja))⟩ : Jr)) fun v17 => (Jdo (Je (⟨(⟨v17.list.ops⟩ : Jp), v17.r, v17.s, v17.nozzle⟩ : Jd) (⟨2, 0, 0, 0, v4, v14⟩ : Jr)) fun v20 => (Jdo (Je (⟨(⟨v20.list.ops⟩ : Jp), v20.r, v20.s, v20.nozzle⟩ : Jd) (⟨5, 0, 0, 0, 0, (FS.nil : (FS Ja))⟩ : Jr)) fun v23 => some (⟨(⟨v23.list.ops⟩ : Jp), v23.r, v23.s, v23.nozzle⟩ : Jd))))
 else (Jdo (Je (⟨(⟨p0.list.ops⟩ : Jp), p0.r, p0.s, p0.nozzle⟩ : Jd) (⟨2, 0, 0, 0, v4, v14⟩ : Jr)) fun v26 => some (⟨(⟨v26.list.ops⟩ : Jp), v26.r, v26.s, v26.nozzle⟩ : Jd)))))
 else (Jdo (fsl v7.1 1 (flen v7.1)) fun v30 => (if (band (bnot v7.2) (ine p0.s.Retract 0)) = true then (Jdo (Je (⟨(⟨p0.list.ops⟩ : Jp), p0.r, p0.s, p0.nozzle⟩ : Jd) (⟨4, 0, 0, 0, 0, (FS.nil : (FS Ja))⟩ : Jr)) fun v33 => (Jdo (Je (⟨(⟨v33.list.ops⟩ : Jp), v33.r, v33.s, v33.nozzle⟩ : Jd) (⟨2, 0, 0, 0, v4, v30⟩ : Jr)) fun v36 => (Jdo (Je (⟨(⟨v36.list.ops⟩ : Jp), v36.r, v36.s, v36.nozzle⟩ : Jd) (⟨5, 0, 0, 0, 0, (FS.nil : (FS Ja))⟩ : Jr)) fun v39 => some (⟨(⟨v39.list.ops⟩ : Jp), v39.r, v39.s, v39.nozzle⟩ : Jd))))
 else (Jdo (Je (⟨(⟨p0.list.ops⟩ : Jp), p0.r, p0.s, p0.nozzle⟩ : Jd) (⟨2, 0, 0, 0, v4, v30⟩ : Jr)) fun v42 => some (⟨(⟨v42.list.ops⟩ : Jp), v42.r, v42.s, v42.nozzle⟩ : Jd))))))))
theorem Jb7 {p0 : Jd} {p1 : Ja} (e000 : p0.list.ops = FS.nil) {r : Jd} (h : Qw p0 p1 = some r) : FC env 66 [.ptr 0 0 0, .agg [.int .i64 p1.X, .int .i64 p1.Y]] (some (hl [(0, .box 0 [.nils, encF Jl p0.r.Rows, .int .i64 p0.s.Pitch, .int .i64 p0.s.Height, .int .i64 p0.s.Walls, .int .i64 p0.s.Top, .int .i64 p0.s.Bottom, .int .i64 p0.s.Pattern, .int .i64 p0.s.Spacing, .bool p0.s.Support, .int .i64 p0.s.Reach, .int .i64 p0.s.Gap, .int .i64 p0.s.Brim, .int .i64 p0.s.Skirt, .int .i64 p0.s.Drop, .int .i64 p0.s.Feed, .int .i64 p0.s.Travel, .int .i64 p0.s.Retract, .int .i64 p0.s.MinTime, .int .i64 p0.s.MinFeed, .int .i64 p0.s.Nozzle, .int .i64 p0.s.Bed, .int .i64 p0.nozzle.X, .int .i64 p0.nozzle.Y])], 0)) = some (.tup [], (Jab r.list.ops (hl [(0, .box 0 [.nils, encF Jl r.r.Rows, .int .i64 r.s.Pitch, .int .i64 r.s.Height, .int .i64 r.s.Walls, .int .i64 r.s.Top, .int .i64 r.s.Bottom, .int .i64 r.s.Pattern, .int .i64 r.s.Spacing, .bool r.s.Support, .int .i64 r.s.Reach, .int .i64 r.s.Gap, .int .i64 r.s.Brim, .int .i64 r.s.Skirt, .int .i64 r.s.Drop, .int .i64 r.s.Feed, .int .i64 r.s.Travel, .int .i64 r.s.Retract, .int .i64 r.s.MinTime, .int .i64 r.s.MinFeed, .int .i64 r.s.Nozzle, .int .i64 r.s.Bed, .int .i64 r.nozzle.X, .int .i64 r.nozzle.Y])])
  (fun l0 => hl [(0, .box 0 [.arr 1000000 0 0 l0.l.length, encF Jl r.r.Rows, .int .i64 r.s.Pitch, .int .i64 r.s.Height, .int .i64 r.s.Walls, .int .i64 r.s.Top, .int .i64 r.s.Bottom, .int .i64 r.s.Pattern, .int .i64 r.s.Spacing, .bool r.s.Support, .int .i64 r.s.Reach, .int .i64 r.s.Gap, .int .i64 r.s.Brim, .int .i64 r.s.Skirt, .int .i64 r.s.Drop, .int .i64 r.s.Feed, .int .i64 r.s.Travel, .int .i64 r.s.Retract, .int .i64 r.s.MinTime, .int .i64 r.s.MinFeed, .int .i64 r.s.Nozzle, .int .i64 r.s.Bed, .int .i64 r.nozzle.X, .int .i64 r.nozzle.Y]), (1000000, .arr 0 6 40 (Jn Jz l0.l) false)]))) := by
 unfold Qw at h
 simp only [e000, J3] at h
 by_cases c1 : (band (ieq p0.nozzle.X p1.X) (band (ieq p0.nozzle.Y p1.Y) true)) = true
 · rw [if_pos c1] at h
   cases h
   refine Zr (lf := lf66) rfl rfl rfl ?_
   simp only [lf66, lc66]
   rcases tof (ieq p0.nozzle.X p1.X) with a2 | a2
   · rcases tof (ieq p0.nozzle.Y p1.Y) with a3 | a3
     · simp (maxSteps := 4000000) [a2, a3, e000]
     · simp [a2, a3] at c1
   · simp [a2] at c1
 · rw [if_neg c1] at h
   rw [Bool.not_eq_true] at c1
   cases h5 : Qf (⟨(⟨(FS.nil : (FS Jr))⟩ : Jp), p0.r, p0.s, p0.nozzle⟩ : Jd) p0.s.Travel with
   | none => (rw [h5, K1] at h; cases h)
   | some v6 =>
    rw [h5, K2] at h
    have f4 := Za h5
    try simp only [Xs] at f4
    cases h8 : Jak p0.r p0.nozzle p1 with
    | none => (rw [h8, K1] at h; cases h)
    | some v9 =>
     rw [h8, K2] at h
     have f7 := Jgf h8
     by_cases c10 : (bnot v9.2) = true
     · rw [if_pos c10] at h
       cases h12 : zi p0.nozzle p1 with
       | none => (rw [h12, K1] at h; cases h)
       | some v13 =>
        rw [h12, K2] at h
        have f11 := Jdm h12
        cases h15 : fsl v13 1 (flen v13) with
        | none => (rw [h15, K1] at h; cases h)
        | some v16 =>
         rw [h15, K2] at h
         have f14 := Jfp (e := Jh) h15
         by_cases c17 : (band (bnot v9.2) (ine p0.s.Retract 0)) = true
         · rw [if_pos c17] at h
           cases h18 : Je (⟨(⟨(FS.nil : (FS Jr))⟩ : Jp), p0.r, p0.s, p0.nozzle⟩ : Jd) (⟨4, 0, 0, 0, 0, (FS.nil : (FS Ja))⟩ : Jr) with
           | none => (rw [h18, K1] at h; cases h)
           | some v19 =>
            rw [h18, K2] at h
            obtain ⟨f20, ⟨l22, e21⟩⟩ := Ky rfl h18
            simp only [e21] at f20
            try simp only [e21] at h
            try simp only [J8, Xs, Jj, Ji, Jm, Jw, Jt, Ju, Jv, Js] at f20
            try simp only [Jj, Ji, Jm, Jw, Jt, Ju, Jv, Js] at f20
            have f23 : ∀ H : Heap, H 0 = some (.box 0 [.nils, encF Jl p0.r.Rows, .int .i64 p0.s.Pitch, .int .i64 p0.s.Height, .int .i64 p0.s.Walls, .int .i64 p0.s.Top, .int .i64 p0.s.Bottom, .int .i64 p0.s.Pattern, .int .i64 p0.s.Spacing, .bool p0.s.Support, .int .i64 p0.s.Reach, .int .i64 p0.s.Gap, .int .i64 p0.s.Brim, .int .i64 p0.s.Skirt, .int .i64 p0.s.Drop, .int .i64 p0.s.Feed, .int .i64 p0.s.Travel, .int .i64 p0.s.Retract, .int .i64 p0.s.MinTime, .int .i64 p0.s.MinFeed, .int .i64 p0.s.Nozzle, .int .i64 p0.s.Bed, .int .i64 p0.nozzle.X, .int .i64 p0.nozzle.Y]) → H 1000000 = none → jt (FC env) 24 H [.ptr 0 0 0, .agg [.int .i64 4, .int .i64 0, .int .i64 0, .int .i64 0, .int .i64 0, .nils]] = some (.tup [], upd (upd H 1000000 (some (.arr 0 6 40 (Jn Jz (FS.lst l22).l) false))) 0 (some (.box 0 [.arr 1000000 0 0 (FS.lst l22).l.length, encF Jl v19.r.Rows, .int .i64 v19.s.Pitch, .int .i64 v19.s.Height, .int .i64 v19.s.Walls, .int .i64 v19.s.Top, .int .i64 v19.s.Bottom, .int .i64 v19.s.Pattern, .int .i64 v19.s.Spacing, .bool v19.s.Support, .int .i64 v19.s.Reach, .int .i64 v19.s.Gap, .int .i64 v19.s.Brim, .int .i64 v19.s.Skirt, .int .i64 v19.s.Drop, .int .i64 v19.s.Feed, .int .i64 v19.s.Travel, .int .i64 v19.s.Retract, .int .i64 v19.s.MinTime, .int .i64 v19.s.MinFeed, .int .i64 v19.s.Nozzle, .int .i64 v19.s.Bed, .int .i64 v19.nozzle.X, .int .i64 v19.nozzle.Y]))) := by
              intro H q0 q1
              simp (maxSteps := 4000000) [q0, q1, f20]
            cases h24 : Je (⟨(⟨(FS.lst l22)⟩ : Jp), v19.r, v19.s, v19.nozzle⟩ : Jd) (⟨2, 0, 0, 0, v6, v16⟩ : Jr) with
            | none => (rw [h24, K1] at h; cases h)
            | some v25 =>
             rw [h24, K2] at h
             obtain ⟨f26, ⟨l28, e27⟩⟩ := Jx rfl h24
             simp only [e27] at f26
             try simp only [e27] at h
             try simp only [J8, Xs, Jj, Ji, Jm, Jw, Jt, Ju, Jv, Js] at f26
             try simp only [Jj, Ji, Jm, Jw, Jt, Ju, Jv, Js] at f26
             have f29 : ∀ H : Heap, H 0 = some (.box 0 [.arr 1000000 0 0 (FS.lst l22).l.length, encF Jl v19.r.Rows, .int .i64 v19.s.Pitch, .int .i64 v19.s.Height, .int .i64 v19.s.Walls, .int .i64 v19.s.Top, .int .i64 v19.s.Bottom, .int .i64 v19.s.Pattern, .int .i64 v19.s.Spacing, .bool v19.s.Support, .int .i64 v19.s.Reach, .int .i64 v19.s.Gap, .int .i64 v19.s.Brim, .int .i64 v19.s.Skirt, .int .i64 v19.s.Drop, .int .i64 v19.s.Feed, .int .i64 v19.s.Travel, .int .i64 v19.s.Retract, .int .i64 v19.s.MinTime, .int .i64 v19.s.MinFeed, .int .i64 v19.s.Nozzle, .int .i64 v19.s.Bed, .int .i64 v19.nozzle.X, .int .i64 v19.nozzle.Y]) → H 1000000 = some (.arr 0 6 40 (Jn Jz (FS.lst l22).l) false) → jt (FC env) 24 H [.ptr 0 0 0, .agg [.int .i64 2, .int .i64 0, .int .i64 0, .int .i64 0, .int .i64 v6, encF Jh v16]] = some (.tup [], upd (upd H 1000000 (some (.arr 1 6 40 (Jn Jz (FS.lst l28).l) false))) 0 (some (.box 0 [.arr 1000000 1 0 (FS.lst l28).l.length, encF Jl v25.r.Rows, .int .i64 v25.s.Pitch, .int .i64 v25.s.Height, .int .i64 v25.s.Walls, .int .i64 v25.s.Top, .int .i64 v25.s.Bottom, .int .i64 v25.s.Pattern, .int .i64 v25.s.Spacing, .bool v25.s.Support, .int .i64 v25.s.Reach, .int .i64 v25.s.Gap, .int .i64 v25.s.Brim, .int .i64 v25.s.Skirt, .int .i64 v25.s.Drop, .int .i64 v25.s.Feed, .int .i64 v25.s.Travel, .int .i64 v25.s.Retract, .int .i64 v25.s.MinTime, .int .i64 v25.s.MinFeed, .int .i64 v25.s.Nozzle, .int .i64 v25.s.Bed, .int .i64 v25.nozzle.X, .int .i64 v25.nozzle.Y]))) := by
               intro H q0 q1
               simp (maxSteps := 4000000) [q0, q1, f26]
             cases h30 : Je (⟨(⟨(FS.lst l28)⟩ : Jp), v25.r, v25.s, v25.nozzle⟩ : Jd) (⟨5, 0, 0, 0, 0, (FS.nil : (FS Ja))⟩ : Jr) with
             | none => (rw [h30, K1] at h; cases h)
             | some v31 =>
              rw [h30, K2] at h
              obtain ⟨f32, ⟨l34, e33⟩⟩ := Jx rfl h30
              simp only [e33] at f32
              try simp only [e33] at h
              try simp only [J8, Xs, Jj, Ji, Jm, Jw, Jt, Ju, Jv, Js] at f32
              try simp only [Jj, Ji, Jm, Jw, Jt, Ju, Jv, Js] at f32
              have f35 : ∀ H : Heap, H 0 = some (.box 0 [.arr 1000000 1 0 (FS.lst l28).l.length, encF Jl v25.r.Rows, .int .i64 v25.s.Pitch, .int .i64 v25.s.Height, .int .i64 v25.s.Walls, .int .i64 v25.s.Top, .int .i64 v25.s.Bottom, .int .i64 v25.s.Pattern, .int .i64 v25.s.Spacing, .bool v25.s.Support, .int .i64 v25.s.Reach, .int .i64 v25.s.Gap, .int .i64 v25.s.Brim, .int .i64 v25.s.Skirt, .int .i64 v25.s.Drop, .int .i64 v25.s.Feed, .int .i64 v25.s.Travel, .int .i64 v25.s.Retract, .int .i64 v25.s.MinTime, .int .i64 v25.s.MinFeed, .int .i64 v25.s.Nozzle, .int .i64 v25.s.Bed, .int .i64 v25.nozzle.X, .int .i64 v25.nozzle.Y]) → H 1000000 = some (.arr 1 6 40 (Jn Jz (FS.lst l28).l) false) → jt (FC env) 24 H [.ptr 0 0 0, .agg [.int .i64 5, .int .i64 0, .int .i64 0, .int .i64 0, .int .i64 0, .nils]] = some (.tup [], upd (upd H 1000000 (some (.arr 2 6 40 (Jn Jz (FS.lst l34).l) false))) 0 (some (.box 0 [.arr 1000000 2 0 (FS.lst l34).l.length, encF Jl v31.r.Rows, .int .i64 v31.s.Pitch, .int .i64 v31.s.Height, .int .i64 v31.s.Walls, .int .i64 v31.s.Top, .int .i64 v31.s.Bottom, .int .i64 v31.s.Pattern, .int .i64 v31.s.Spacing, .bool v31.s.Support, .int .i64 v31.s.Reach, .int .i64 v31.s.Gap, .int .i64 v31.s.Brim, .int .i64 v31.s.Skirt, .int .i64 v31.s.Drop, .int .i64 v31.s.Feed, .int .i64 v31.s.Travel, .int .i64 v31.s.Retract, .int .i64 v31.s.MinTime, .int .i64 v31.s.MinFeed, .int .i64 v31.s.Nozzle, .int .i64 v31.s.Bed, .int .i64 v31.nozzle.X, .int .i64 v31.nozzle.Y]))) := by
                intro H q0 q1
                simp (maxSteps := 4000000) [q0, q1, f32]
              cases h
              refine Zr (lf := lf66) rfl rfl rfl ?_
              simp only [lf66, lc66]
              rcases tof (ieq p0.nozzle.X p1.X) with a36 | a36
              · rcases tof (ieq p0.nozzle.Y p1.Y) with a37 | a37
                · simp [a36, a37] at c1
                · rcases tof v9.2 with a38 | a38
                  · simp [a36, a37, a38] at c10
                  · rcases tof (ine p0.s.Retract 0) with a39 | a39
                    · try simp only [a36, a37, a38, a39] at f4 f20 f26 f32
                      simp (maxSteps := 4000000) [-Qq, a36, a37, a38, a39, e000, f4, f7, f11, f14, e21, f23, f20, e27, f29, f26, e33, f35, f32]
                    · simp [a36, a37, a38, a39] at c17
              · rcases tof v9.2 with a40 | a40
                · simp [a36, a40] at c10
                · rcases tof (ine p0.s.Retract 0) with a41 | a41
                  · try simp only [a36, a40, a41] at f4 f20 f26 f32
                    simp (maxSteps := 4000000) [-Qq, a36, a40, a41, e000, f4, f7, f11, f14, e21, f23, f20, e27, f29, f26, e33, f35, f32]
                  · simp [a36, a40, a41] at c17
         · rw [if_neg c17] at h
           rw [Bool.not_eq_true] at c17
           cases h42 : Je (⟨(⟨(FS.nil : (FS Jr))⟩ : Jp), p0.r, p0.s, p0.nozzle⟩ : Jd) (⟨2, 0, 0, 0, v6, v16⟩ : Jr) with
           | none => (rw [h42, K1] at h; cases h)
           | some v43 =>
            rw [h42, K2] at h
            obtain ⟨f44, ⟨l46, e45⟩⟩ := Ky rfl h42
            simp only [e45] at f44
            try simp only [e45] at h
            try simp only [J8, Xs, Jj, Ji, Jm, Jw, Jt, Ju, Jv, Js] at f44
            try simp only [Jj, Ji, Jm, Jw, Jt, Ju, Jv, Js] at f44
            have f47 : ∀ H : Heap, H 0 = some (.box 0 [.nils, encF Jl p0.r.Rows, .int .i64 p0.s.Pitch, .int .i64 p0.s.Height, .int .i64 p0.s.Walls, .int .i64 p0.s.Top, .int .i64 p0.s.Bottom, .int .i64 p0.s.Pattern, .int .i64 p0.s.Spacing, .bool p0.s.Support, .int .i64 p0.s.Reach, .int .i64 p0.s.Gap, .int .i64 p0.s.Brim, .int .i64 p0.s.Skirt, .int .i64 p0.s.Drop, .int .i64 p0.s.Feed, .int .i64 p0.s.Travel, .int .i64 p0.s.Retract, .int .i64 p0.s.MinTime, .int .i64 p0.s.MinFeed, .int .i64 p0.s.Nozzle, .int .i64 p0.s.Bed, .int .i64 p0.nozzle.X, .int .i64 p0.nozzle.Y]) → H 1000000 = none → jt (FC env) 24 H [.ptr 0 0 0, .agg [.int .i64 2, .int .i64 0, .int .i64 0, .int .i64 0, .int .i64 v6, encF Jh v16]] = some (.tup [], upd (upd H 1000000 (some (.arr 0 6 40 (Jn Jz (FS.lst l46).l) false))) 0 (some (.box 0 [.arr 1000000 0 0 (FS.lst l46).l.length, encF Jl v43.r.Rows, .int .i64 v43.s.Pitch, .int .i64 v43.s.Height, .int .i64 v43.s.Walls, .int .i64 v43.s.Top, .int .i64 v43.s.Bottom, .int .i64 v43.s.Pattern, .int .i64 v43.s.Spacing, .bool v43.s.Support, .int .i64 v43.s.Reach, .int .i64 v43.s.Gap, .int .i64 v43.s.Brim, .int .i64 v43.s.Skirt, .int .i64 v43.s.Drop, .int .i64 v43.s.Feed, .int .i64 v43.s.Travel, .int .i64 v43.s.Retract, .int .i64 v43.s.MinTime, .int .i64 v43.s.MinFeed, .int .i64 v43.s.Nozzle, .int .i64 v43.s.Bed, .int .i64 v43.nozzle.X, .int .i64 v43.nozzle.Y]))) := by
              intro H q0 q1
              simp (maxSteps := 4000000) [q0, q1, f44]
            cases h
            refine Zr (lf := lf66) rfl rfl rfl ?_
            simp only [lf66, lc66]
            rcases tof (ieq p0.nozzle.X p1.X) with a48 | a48
            · rcases tof (ieq p0.nozzle.Y p1.Y) with a49 | a49
              · simp [a48, a49] at c1
              · rcases tof v9.2 with a50 | a50
                · simp [a48, a49, a50] at c10
                · rcases tof (ine p0.s.Retract 0) with a51 | a51
                  · simp [a48, a49, a50, a51] at c17
                  · try simp only [a48, a49, a50, a51] at f4 f44
                    simp (maxSteps := 4000000) [-Qq, a48, a49, a50, a51, e000, f4, f7, f11, f14, e45, f47, f44]
            · rcases tof v9.2 with a52 | a52
              · simp [a48, a52] at c10
              · rcases tof (ine p0.s.Retract 0) with a53 | a53
                · simp [a48, a52, a53] at c17
                · try simp only [a48, a52, a53] at f4 f44
                  simp (maxSteps := 4000000) [-Qq, a48, a52, a53, e000, f4, f7, f11, f14, e45, f47, f44]
     · rw [if_neg c10] at h
       rw [Bool.not_eq_true] at c10
       cases h55 : fsl v9.1 1 (flen v9.1) with
       | none => (rw [h55, K1] at h; cases h)
       | some v56 =>
        rw [h55, K2] at h
        have f54 := Jfp (e := Jh) h55
        by_cases c57 : (band (bnot v9.2) (ine p0.s.Retract 0)) = true
        · rw [if_pos c57] at h
          cases h58 : Je (⟨(⟨(FS.nil : (FS Jr))⟩ : Jp), p0.r, p0.s, p0.nozzle⟩ : Jd) (⟨4, 0, 0, 0, 0, (FS.nil : (FS Ja))⟩ : Jr) with
          | none => (rw [h58, K1] at h; cases h)
          | some v59 =>
           rw [h58, K2] at h
           obtain ⟨f60, ⟨l62, e61⟩⟩ := Ky rfl h58
           simp only [e61] at f60
           try simp only [e61] at h
           try simp only [J8, Xs, Jj, Ji, Jm, Jw, Jt, Ju, Jv, Js] at f60
           try simp only [Jj, Ji, Jm, Jw, Jt, Ju, Jv, Js] at f60
           have f63 : ∀ H : Heap, H 0 = some (.box 0 [.nils, encF Jl p0.r.Rows, .int .i64 p0.s.Pitch, .int .i64 p0.s.Height, .int .i64 p0.s.Walls, .int .i64 p0.s.Top, .int .i64 p0.s.Bottom, .int .i64 p0.s.Pattern, .int .i64 p0.s.Spacing, .bool p0.s.Support, .int .i64 p0.s.Reach, .int .i64 p0.s.Gap, .int .i64 p0.s.Brim, .int .i64 p0.s.Skirt, .int .i64 p0.s.Drop, .int .i64 p0.s.Feed, .int .i64 p0.s.Travel, .int .i64 p0.s.Retract, .int .i64 p0.s.MinTime, .int .i64 p0.s.MinFeed, .int .i64 p0.s.Nozzle, .int .i64 p0.s.Bed, .int .i64 p0.nozzle.X, .int .i64 p0.nozzle.Y]) → H 1000000 = none → jt (FC env) 24 H [.ptr 0 0 0, .agg [.int .i64 4, .int .i64 0, .int .i64 0, .int .i64 0, .int .i64 0, .nils]] = some (.tup [], upd (upd H 1000000 (some (.arr 0 6 40 (Jn Jz (FS.lst l62).l) false))) 0 (some (.box 0 [.arr 1000000 0 0 (FS.lst l62).l.length, encF Jl v59.r.Rows, .int .i64 v59.s.Pitch, .int .i64 v59.s.Height, .int .i64 v59.s.Walls, .int .i64 v59.s.Top, .int .i64 v59.s.Bottom, .int .i64 v59.s.Pattern, .int .i64 v59.s.Spacing, .bool v59.s.Support, .int .i64 v59.s.Reach, .int .i64 v59.s.Gap, .int .i64 v59.s.Brim, .int .i64 v59.s.Skirt, .int .i64 v59.s.Drop, .int .i64 v59.s.Feed, .int .i64 v59.s.Travel, .int .i64 v59.s.Retract, .int .i64 v59.s.MinTime, .int .i64 v59.s.MinFeed, .int .i64 v59.s.Nozzle, .int .i64 v59.s.Bed, .int .i64 v59.nozzle.X, .int .i64 v59.nozzle.Y]))) := by
             intro H q0 q1
             simp (maxSteps := 4000000) [q0, q1, f60]
           cases h64 : Je (⟨(⟨(FS.lst l62)⟩ : Jp), v59.r, v59.s, v59.nozzle⟩ : Jd) (⟨2, 0, 0, 0, v6, v56⟩ : Jr) with
           | none => (rw [h64, K1] at h; cases h)
           | some v65 =>
            rw [h64, K2] at h
            obtain ⟨f66, ⟨l68, e67⟩⟩ := Jx rfl h64
            simp only [e67] at f66
            try simp only [e67] at h
            try simp only [J8, Xs, Jj, Ji, Jm, Jw, Jt, Ju, Jv, Js] at f66
            try simp only [Jj, Ji, Jm, Jw, Jt, Ju, Jv, Js] at f66
            have f69 : ∀ H : Heap, H 0 = some (.box 0 [.arr 1000000 0 0 (FS.lst l62).l.length, encF Jl v59.r.Rows, .int .i64 v59.s.Pitch, .int .i64 v59.s.Height, .int .i64 v59.s.Walls, .int .i64 v59.s.Top, .int .i64 v59.s.Bottom, .int .i64 v59.s.Pattern, .int .i64 v59.s.Spacing, .bool v59.s.Support, .int .i64 v59.s.Reach, .int .i64 v59.s.Gap, .int .i64 v59.s.Brim, .int .i64 v59.s.Skirt, .int .i64 v59.s.Drop, .int .i64 v59.s.Feed, .int .i64 v59.s.Travel, .int .i64 v59.s.Retract, .int .i64 v59.s.MinTime, .int .i64 v59.s.MinFeed, .int .i64 v59.s.Nozzle, .int .i64 v59.s.Bed, .int .i64 v59.nozzle.X, .int .i64 v59.nozzle.Y]) → H 1000000 = some (.arr 0 6 40 (Jn Jz (FS.lst l62).l) false) → jt (FC env) 24 H [.ptr 0 0 0, .agg [.int .i64 2, .int .i64 0, .int .i64 0, .int .i64 0, .int .i64 v6, encF Jh v56]] = some (.tup [], upd (upd H 1000000 (some (.arr 1 6 40 (Jn Jz (FS.lst l68).l) false))) 0 (some (.box 0 [.arr 1000000 1 0 (FS.lst l68).l.length, encF Jl v65.r.Rows, .int .i64 v65.s.Pitch, .int .i64 v65.s.Height, .int .i64 v65.s.Walls, .int .i64 v65.s.Top, .int .i64 v65.s.Bottom, .int .i64 v65.s.Pattern, .int .i64 v65.s.Spacing, .bool v65.s.Support, .int .i64 v65.s.Reach, .int .i64 v65.s.Gap, .int .i64 v65.s.Brim, .int .i64 v65.s.Skirt, .int .i64 v65.s.Drop, .int .i64 v65.s.Feed, .int .i64 v65.s.Travel, .int .i64 v65.s.Retract, .int .i64 v65.s.MinTime, .int .i64 v65.s.MinFeed, .int .i64 v65.s.Nozzle, .int .i64 v65.s.Bed, .int .i64 v65.nozzle.X, .int .i64 v65.nozzle.Y]))) := by
              intro H q0 q1
              simp (maxSteps := 4000000) [q0, q1, f66]
            cases h70 : Je (⟨(⟨(FS.lst l68)⟩ : Jp), v65.r, v65.s, v65.nozzle⟩ : Jd) (⟨5, 0, 0, 0, 0, (FS.nil : (FS Ja))⟩ : Jr) with
            | none => (rw [h70, K1] at h; cases h)
            | some v71 =>
             rw [h70, K2] at h
             obtain ⟨f72, ⟨l74, e73⟩⟩ := Jx rfl h70
             simp only [e73] at f72
             try simp only [e73] at h
             try simp only [J8, Xs, Jj, Ji, Jm, Jw, Jt, Ju, Jv, Js] at f72
             try simp only [Jj, Ji, Jm, Jw, Jt, Ju, Jv, Js] at f72
             have f75 : ∀ H : Heap, H 0 = some (.box 0 [.arr 1000000 1 0 (FS.lst l68).l.length, encF Jl v65.r.Rows, .int .i64 v65.s.Pitch, .int .i64 v65.s.Height, .int .i64 v65.s.Walls, .int .i64 v65.s.Top, .int .i64 v65.s.Bottom, .int .i64 v65.s.Pattern, .int .i64 v65.s.Spacing, .bool v65.s.Support, .int .i64 v65.s.Reach, .int .i64 v65.s.Gap, .int .i64 v65.s.Brim, .int .i64 v65.s.Skirt, .int .i64 v65.s.Drop, .int .i64 v65.s.Feed, .int .i64 v65.s.Travel, .int .i64 v65.s.Retract, .int .i64 v65.s.MinTime, .int .i64 v65.s.MinFeed, .int .i64 v65.s.Nozzle, .int .i64 v65.s.Bed, .int .i64 v65.nozzle.X, .int .i64 v65.nozzle.Y]) → H 1000000 = some (.arr 1 6 40 (Jn Jz (FS.lst l68).l) false) → jt (FC env) 24 H [.ptr 0 0 0, .agg [.int .i64 5, .int .i64 0, .int .i64 0, .int .i64 0, .int .i64 0, .nils]] = some (.tup [], upd (upd H 1000000 (some (.arr 2 6 40 (Jn Jz (FS.lst l74).l) false))) 0 (some (.box 0 [.arr 1000000 2 0 (FS.lst l74).l.length, encF Jl v71.r.Rows, .int .i64 v71.s.Pitch, .int .i64 v71.s.Height, .int .i64 v71.s.Walls, .int .i64 v71.s.Top, .int .i64 v71.s.Bottom, .int .i64 v71.s.Pattern, .int .i64 v71.s.Spacing, .bool v71.s.Support, .int .i64 v71.s.Reach, .int .i64 v71.s.Gap, .int .i64 v71.s.Brim, .int .i64 v71.s.Skirt, .int .i64 v71.s.Drop, .int .i64 v71.s.Feed, .int .i64 v71.s.Travel, .int .i64 v71.s.Retract, .int .i64 v71.s.MinTime, .int .i64 v71.s.MinFeed, .int .i64 v71.s.Nozzle, .int .i64 v71.s.Bed, .int .i64 v71.nozzle.X, .int .i64 v71.nozzle.Y]))) := by
               intro H q0 q1
               simp (maxSteps := 4000000) [q0, q1, f72]
             cases h
             refine Zr (lf := lf66) rfl rfl rfl ?_
             simp only [lf66, lc66]
             rcases tof (ieq p0.nozzle.X p1.X) with a76 | a76
             · rcases tof (ieq p0.nozzle.Y p1.Y) with a77 | a77
               · simp [a76, a77] at c1
               · rcases tof v9.2 with a78 | a78
                 · simp [a76, a77, a78] at c57
                 · simp [a76, a77, a78] at c10
             · rcases tof v9.2 with a79 | a79
               · simp [a76, a79] at c57
               · simp [a76, a79] at c10
        · rw [if_neg c57] at h
          rw [Bool.not_eq_true] at c57
          cases h80 : Je (⟨(⟨(FS.nil : (FS Jr))⟩ : Jp), p0.r, p0.s, p0.nozzle⟩ : Jd) (⟨2, 0, 0, 0, v6, v56⟩ : Jr) with
          | none => (rw [h80, K1] at h; cases h)
          | some v81 =>
           rw [h80, K2] at h
           obtain ⟨f82, ⟨l84, e83⟩⟩ := Ky rfl h80
           simp only [e83] at f82
           try simp only [e83] at h
           try simp only [J8, Xs, Jj, Ji, Jm, Jw, Jt, Ju, Jv, Js] at f82
           try simp only [Jj, Ji, Jm, Jw, Jt, Ju, Jv, Js] at f82
           have f85 : ∀ H : Heap, H 0 = some (.box 0 [.nils, encF Jl p0.r.Rows, .int .i64 p0.s.Pitch, .int .i64 p0.s.Height, .int .i64 p0.s.Walls, .int .i64 p0.s.Top, .int .i64 p0.s.Bottom, .int .i64 p0.s.Pattern, .int .i64 p0.s.Spacing, .bool p0.s.Support, .int .i64 p0.s.Reach, .int .i64 p0.s.Gap, .int .i64 p0.s.Brim, .int .i64 p0.s.Skirt, .int .i64 p0.s.Drop, .int .i64 p0.s.Feed, .int .i64 p0.s.Travel, .int .i64 p0.s.Retract, .int .i64 p0.s.MinTime, .int .i64 p0.s.MinFeed, .int .i64 p0.s.Nozzle, .int .i64 p0.s.Bed, .int .i64 p0.nozzle.X, .int .i64 p0.nozzle.Y]) → H 1000000 = none → jt (FC env) 24 H [.ptr 0 0 0, .agg [.int .i64 2, .int .i64 0, .int .i64 0, .int .i64 0, .int .i64 v6, encF Jh v56]] = some (.tup [], upd (upd H 1000000 (some (.arr 0 6 40 (Jn Jz (FS.lst l84).l) false))) 0 (some (.box 0 [.arr 1000000 0 0 (FS.lst l84).l.length, encF Jl v81.r.Rows, .int .i64 v81.s.Pitch, .int .i64 v81.s.Height, .int .i64 v81.s.Walls, .int .i64 v81.s.Top, .int .i64 v81.s.Bottom, .int .i64 v81.s.Pattern, .int .i64 v81.s.Spacing, .bool v81.s.Support, .int .i64 v81.s.Reach, .int .i64 v81.s.Gap, .int .i64 v81.s.Brim, .int .i64 v81.s.Skirt, .int .i64 v81.s.Drop, .int .i64 v81.s.Feed, .int .i64 v81.s.Travel, .int .i64 v81.s.Retract, .int .i64 v81.s.MinTime, .int .i64 v81.s.MinFeed, .int .i64 v81.s.Nozzle, .int .i64 v81.s.Bed, .int .i64 v81.nozzle.X, .int .i64 v81.nozzle.Y]))) := by
             intro H q0 q1
             simp (maxSteps := 4000000) [q0, q1, f82]
           cases h
           refine Zr (lf := lf66) rfl rfl rfl ?_
           simp only [lf66, lc66]
           rcases tof (ieq p0.nozzle.X p1.X) with a86 | a86
           · rcases tof (ieq p0.nozzle.Y p1.Y) with a87 | a87
             · simp [a86, a87] at c1
             · rcases tof v9.2 with a88 | a88
               · try simp only [a86, a87, a88] at f4 f82
                 simp (maxSteps := 4000000) [-Qq, a86, a87, a88, e000, f4, f7, f54, e83, f85, f82]
               · simp [a86, a87, a88] at c10
           · rcases tof v9.2 with a89 | a89
             · try simp only [a86, a89] at f4 f82
               simp (maxSteps := 4000000) [-Qq, a86, a89, e000, f4, f7, f54, e83, f85, f82]
             · simp [a86, a89] at c10
theorem Jb8 {p0 : Jd} {p1 : Ja} {le000 : List Jr} (e000 : p0.list.ops = FS.lst le000) {r : Jd} (h : Qw p0 p1 = some r) : FC env 66 [.ptr 0 0 0, .agg [.int .i64 p1.X, .int .i64 p1.Y]] (some (hl [(0, .box 0 [.arr 1000000 0 0 p0.list.ops.l.length, encF Jl p0.r.Rows, .int .i64 p0.s.Pitch, .int .i64 p0.s.Height, .int .i64 p0.s.Walls, .int .i64 p0.s.Top, .int .i64 p0.s.Bottom, .int .i64 p0.s.Pattern, .int .i64 p0.s.Spacing, .bool p0.s.Support, .int .i64 p0.s.Reach, .int .i64 p0.s.Gap, .int .i64 p0.s.Brim, .int .i64 p0.s.Skirt, .int .i64 p0.s.Drop, .int .i64 p0.s.Feed, .int .i64 p0.s.Travel, .int .i64 p0.s.Retract, .int .i64 p0.s.MinTime, .int .i64 p0.s.MinFeed, .int .i64 p0.s.Nozzle, .int .i64 p0.s.Bed, .int .i64 p0.nozzle.X, .int .i64 p0.nozzle.Y]), (1000000, .arr 0 6 40 (Jn Jz p0.list.ops.l) false)], 0)) = some (.tup [], hl [(0, .box 0 [.arr 1000000 0 0 r.list.ops.l.length, encF Jl r.r.Rows, .int .i64 r.s.Pitch, .int .i64 r.s.Height, .int .i64 r.s.Walls, .int .i64 r.s.Top, .int .i64 r.s.Bottom, .int .i64 r.s.Pattern, .int .i64 r.s.Spacing, .bool r.s.Support, .int .i64 r.s.Reach, .int .i64 r.s.Gap, .int .i64 r.s.Brim, .int .i64 r.s.Skirt, .int .i64 r.s.Drop, .int .i64 r.s.Feed, .int .i64 r.s.Travel, .int .i64 r.s.Retract, .int .i64 r.s.MinTime, .int .i64 r.s.MinFeed, .int .i64 r.s.Nozzle, .int .i64 r.s.Bed, .int .i64 r.nozzle.X, .int .i64 r.nozzle.Y]), (1000000, .arr 0 6 40 (Jn Jz r.list.ops.l) false)]) ∧ ∃ l, r.list.ops = FS.lst l := by
 unfold Qw at h
 simp only [e000, J3] at h
 by_cases c1 : (band (ieq p0.nozzle.X p1.X) (band (ieq p0.nozzle.Y p1.Y) true)) = true
 · rw [if_pos c1] at h
   cases h
   refine ⟨?_, by first | exact ⟨_, rfl⟩ | exact ⟨_, by assumption⟩⟩
   refine Zr (lf := lf66) rfl rfl rfl ?_
   simp only [lf66, lc66]
   rcases tof (ieq p0.nozzle.X p1.X) with a2 | a2
   · rcases tof (ieq p0.nozzle.Y p1.Y) with a3 | a3
     · simp (maxSteps := 4000000) [a2, a3, e000]
     · simp [a2, a3] at c1
   · simp [a2] at c1
 · rw [if_neg c1] at h
   rw [Bool.not_eq_true] at c1
   cases h5 : Qf (⟨(⟨(FS.lst le000)⟩ : Jp), p0.r, p0.s, p0.nozzle⟩ : Jd) p0.s.Travel with
   | none => (rw [h5, K1] at h; cases h)
   | some v6 =>
    rw [h5, K2] at h
    have f4 := Za h5
    cases h8 : Jak p0.r p0.nozzle p1 with
    | none => (rw [h8, K1] at h; cases h)
    | some v9 =>
     rw [h8, K2] at h
     have f7 := Jgf h8
     by_cases c10 : (bnot v9.2) = true
     · rw [if_pos c10] at h
       cases h12 : zi p0.nozzle p1 with
       | none => (rw [h12, K1] at h; cases h)
       | some v13 =>
        rw [h12, K2] at h
        have f11 := Jdm h12
        cases h15 : fsl v13 1 (flen v13) with
        | none => (rw [h15, K1] at h; cases h)
        | some v16 =>
         rw [h15, K2] at h
         have f14 := Jfp (e := Jh) h15
         by_cases c17 : (band (bnot v9.2) (ine p0.s.Retract 0)) = true
         · rw [if_pos c17] at h
           cases h18 : Je (⟨(⟨(FS.lst le000)⟩ : Jp), p0.r, p0.s, p0.nozzle⟩ : Jd) (⟨4, 0, 0, 0, 0, (FS.nil : (FS Ja))⟩ : Jr) with
           | none => (rw [h18, K1] at h; cases h)
           | some v19 =>
            rw [h18, K2] at h
            obtain ⟨f20, ⟨l22, e21⟩⟩ := Jx rfl h18
            simp only [e21] at f20
            try simp only [e21] at h
            try simp only [J8, Xs, Jj, Ji, Jm, Jw, Jt, Ju, Jv, Js] at f20
            try simp only [Jj, Ji, Jm, Jw, Jt, Ju, Jv, Js] at f20
            have f23 : ∀ H : Heap, H 0 = some (.box 0 [.arr 1000000 0 0 (FS.lst le000).l.length, encF Jl p0.r.Rows, .int .i64 p0.s.Pitch, .int .i64 p0.s.Height, .int .i64 p0.s.Walls, .int .i64 p0.s.Top, .int .i64 p0.s.Bottom, .int .i64 p0.s.Pattern, .int .i64 p0.s.Spacing, .bool p0.s.Support, .int .i64 p0.s.Reach, .int .i64 p0.s.Gap, .int .i64 p0.s.Brim, .int .i64 p0.s.Skirt, .int .i64 p0.s.Drop, .int .i64 p0.s.Feed, .int .i64 p0.s.Travel, .int .i64 p0.s.Retract, .int .i64 p0.s.MinTime, .int .i64 p0.s.MinFeed, .int .i64 p0.s.Nozzle, .int .i64 p0.s.Bed, .int .i64 p0.nozzle.X, .int .i64 p0.nozzle.Y]) → H 1000000 = some (.arr 0 6 40 (Jn Jz (FS.lst le000).l) false) → jt (FC env) 24 H [.ptr 0 0 0, .agg [.int .i64 4, .int .i64 0, .int .i64 0, .int .i64 0, .int .i64 0, .nils]] = some (.tup [], upd (upd H 1000000 (some (.arr 1 6 40 (Jn Jz (FS.lst l22).l) false))) 0 (some (.box 0 [.arr 1000000 1 0 (FS.lst l22).l.length, encF Jl v19.r.Rows, .int .i64 v19.s.Pitch, .int .i64 v19.s.Height, .int .i64 v19.s.Walls, .int .i64 v19.s.Top, .int .i64 v19.s.Bottom, .int .i64 v19.s.Pattern, .int .i64 v19.s.Spacing, .bool v19.s.Support, .int .i64 v19.s.Reach, .int .i64 v19.s.Gap, .int .i64 v19.s.Brim, .int .i64 v19.s.Skirt, .int .i64 v19.s.Drop, .int .i64 v19.s.Feed, .int .i64 v19.s.Travel, .int .i64 v19.s.Retract, .int .i64 v19.s.MinTime, .int .i64 v19.s.MinFeed, .int .i64 v19.s.Nozzle, .int .i64 v19.s.Bed, .int .i64 v19.nozzle.X, .int .i64 v19.nozzle.Y]))) := by
              intro H q0 q1
              simp (maxSteps := 4000000) [q0, q1, f20]
            cases h24 : Je (⟨(⟨(FS.lst l22)⟩ : Jp), v19.r, v19.s, v19.nozzle⟩ : Jd) (⟨2, 0, 0, 0, v6, v16⟩ : Jr) with
            | none => (rw [h24, K1] at h; cases h)
            | some v25 =>
             rw [h24, K2] at h
             obtain ⟨f26, ⟨l28, e27⟩⟩ := Jx rfl h24
             simp only [e27] at f26
             try simp only [e27] at h
             try simp only [J8, Xs, Jj, Ji, Jm, Jw, Jt, Ju, Jv, Js] at f26
             try simp only [Jj, Ji, Jm, Jw, Jt, Ju, Jv, Js] at f26
             have f29 : ∀ H : Heap, H 0 = some (.box 0 [.arr 1000000 1 0 (FS.lst l22).l.length, encF Jl v19.r.Rows, .int .i64 v19.s.Pitch, .int .i64 v19.s.Height, .int .i64 v19.s.Walls, .int .i64 v19.s.Top, .int .i64 v19.s.Bottom, .int .i64 v19.s.Pattern, .int .i64 v19.s.Spacing, .bool v19.s.Support, .int .i64 v19.s.Reach, .int .i64 v19.s.Gap, .int .i64 v19.s.Brim, .int .i64 v19.s.Skirt, .int .i64 v19.s.Drop, .int .i64 v19.s.Feed, .int .i64 v19.s.Travel, .int .i64 v19.s.Retract, .int .i64 v19.s.MinTime, .int .i64 v19.s.MinFeed, .int .i64 v19.s.Nozzle, .int .i64 v19.s.Bed, .int .i64 v19.nozzle.X, .int .i64 v19.nozzle.Y]) → H 1000000 = some (.arr 1 6 40 (Jn Jz (FS.lst l22).l) false) → jt (FC env) 24 H [.ptr 0 0 0, .agg [.int .i64 2, .int .i64 0, .int .i64 0, .int .i64 0, .int .i64 v6, encF Jh v16]] = some (.tup [], upd (upd H 1000000 (some (.arr 2 6 40 (Jn Jz (FS.lst l28).l) false))) 0 (some (.box 0 [.arr 1000000 2 0 (FS.lst l28).l.length, encF Jl v25.r.Rows, .int .i64 v25.s.Pitch, .int .i64 v25.s.Height, .int .i64 v25.s.Walls, .int .i64 v25.s.Top, .int .i64 v25.s.Bottom, .int .i64 v25.s.Pattern, .int .i64 v25.s.Spacing, .bool v25.s.Support, .int .i64 v25.s.Reach, .int .i64 v25.s.Gap, .int .i64 v25.s.Brim, .int .i64 v25.s.Skirt, .int .i64 v25.s.Drop, .int .i64 v25.s.Feed, .int .i64 v25.s.Travel, .int .i64 v25.s.Retract, .int .i64 v25.s.MinTime, .int .i64 v25.s.MinFeed, .int .i64 v25.s.Nozzle, .int .i64 v25.s.Bed, .int .i64 v25.nozzle.X, .int .i64 v25.nozzle.Y]))) := by
               intro H q0 q1
               simp (maxSteps := 4000000) [q0, q1, f26]
             cases h30 : Je (⟨(⟨(FS.lst l28)⟩ : Jp), v25.r, v25.s, v25.nozzle⟩ : Jd) (⟨5, 0, 0, 0, 0, (FS.nil : (FS Ja))⟩ : Jr) with
             | none => (rw [h30, K1] at h; cases h)
             | some v31 =>
              rw [h30, K2] at h
              obtain ⟨f32, ⟨l34, e33⟩⟩ := Jx rfl h30
              simp only [e33] at f32
              try simp only [e33] at h
              try simp only [J8, Xs, Jj, Ji, Jm, Jw, Jt, Ju, Jv, Js] at f32
              try simp only [Jj, Ji, Jm, Jw, Jt, Ju, Jv, Js] at f32
              have f35 : ∀ H : Heap, H 0 = some (.box 0 [.arr 1000000 2 0 (FS.lst l28).l.length, encF Jl v25.r.Rows, .int .i64 v25.s.Pitch, .int .i64 v25.s.Height, .int .i64 v25.s.Walls, .int .i64 v25.s.Top, .int .i64 v25.s.Bottom, .int .i64 v25.s.Pattern, .int .i64 v25.s.Spacing, .bool v25.s.Support, .int .i64 v25.s.Reach, .int .i64 v25.s.Gap, .int .i64 v25.s.Brim, .int .i64 v25.s.Skirt, .int .i64 v25.s.Drop, .int .i64 v25.s.Feed, .int .i64 v25.s.Travel, .int .i64 v25.s.Retract, .int .i64 v25.s.MinTime, .int .i64 v25.s.MinFeed, .int .i64 v25.s.Nozzle, .int .i64 v25.s.Bed, .int .i64 v25.nozzle.X, .int .i64 v25.nozzle.Y]) → H 1000000 = some (.arr 2 6 40 (Jn Jz (FS.lst l28).l) false) → jt (FC env) 24 H [.ptr 0 0 0, .agg [.int .i64 5, .int .i64 0, .int .i64 0, .int .i64 0, .int .i64 0, .nils]] = some (.tup [], upd (upd H 1000000 (some (.arr 3 6 40 (Jn Jz (FS.lst l34).l) false))) 0 (some (.box 0 [.arr 1000000 3 0 (FS.lst l34).l.length, encF Jl v31.r.Rows, .int .i64 v31.s.Pitch, .int .i64 v31.s.Height, .int .i64 v31.s.Walls, .int .i64 v31.s.Top, .int .i64 v31.s.Bottom, .int .i64 v31.s.Pattern, .int .i64 v31.s.Spacing, .bool v31.s.Support, .int .i64 v31.s.Reach, .int .i64 v31.s.Gap, .int .i64 v31.s.Brim, .int .i64 v31.s.Skirt, .int .i64 v31.s.Drop, .int .i64 v31.s.Feed, .int .i64 v31.s.Travel, .int .i64 v31.s.Retract, .int .i64 v31.s.MinTime, .int .i64 v31.s.MinFeed, .int .i64 v31.s.Nozzle, .int .i64 v31.s.Bed, .int .i64 v31.nozzle.X, .int .i64 v31.nozzle.Y]))) := by
                intro H q0 q1
                simp (maxSteps := 4000000) [q0, q1, f32]
              cases h
              refine ⟨?_, by first | exact ⟨_, rfl⟩ | exact ⟨_, by assumption⟩⟩
              refine Zr (lf := lf66) rfl rfl rfl ?_
              simp only [lf66, lc66]
              rcases tof (ieq p0.nozzle.X p1.X) with a36 | a36
              · rcases tof (ieq p0.nozzle.Y p1.Y) with a37 | a37
                · simp [a36, a37] at c1
                · rcases tof v9.2 with a38 | a38
                  · simp [a36, a37, a38] at c10
                  · rcases tof (ine p0.s.Retract 0) with a39 | a39
                    · try simp only [a36, a37, a38, a39] at f4 f20 f26 f32
                      simp (maxSteps := 4000000) [-Qq, a36, a37, a38, a39, e000, Yd (e := Jz) (el := 40) (fz := false), f4, f7, f11, f14, e21, f23, f20, e27, f29, f26, e33, f35, f32]
                    · simp [a36, a37, a38, a39] at c17
              · rcases tof v9.2 with a40 | a40
                · simp [a36, a40] at c10
                · rcases tof (ine p0.s.Retract 0) with a41 | a41
                  · try simp only [a36, a40, a41] at f4 f20 f26 f32
                    simp (maxSteps := 4000000) [-Qq, a36, a40, a41, e000, Yd (e := Jz) (el := 40) (fz := false), f4, f7, f11, f14, e21, f23, f20, e27, f29, f26, e33, f35, f32]
                  · simp [a36, a40, a41] at c17
         · rw [if_neg c17] at h
           rw [Bool.not_eq_true] at c17
           cases h42 : Je (⟨(⟨(FS.lst le000)⟩ : Jp), p0.r, p0.s, p0.nozzle⟩ : Jd) (⟨2, 0, 0, 0, v6, v16⟩ : Jr) with
           | none => (rw [h42, K1] at h; cases h)
           | some v43 =>
            rw [h42, K2] at h
            obtain ⟨f44, ⟨l46, e45⟩⟩ := Jx rfl h42
            simp only [e45] at f44
            try simp only [e45] at h
            try simp only [J8, Xs, Jj, Ji, Jm, Jw, Jt, Ju, Jv, Js] at f44
            try simp only [Jj, Ji, Jm, Jw, Jt, Ju, Jv, Js] at f44
            have f47 : ∀ H : Heap, H 0 = some (.box 0 [.arr 1000000 0 0 (FS.lst le000).l.length, encF Jl p0.r.Rows, .int .i64 p0.s.Pitch, .int .i64 p0.s.Height, .int .i64 p0.s.Walls, .int .i64 p0.s.Top, .int .i64 p0.s.Bottom, .int .i64 p0.s.Pattern, .int .i64 p0.s.Spacing, .bool p0.s.Support, .int .i64 p0.s.Reach, .int .i64 p0.s.Gap, .int .i64 p0.s.Brim, .int .i64 p0.s.Skirt, .int .i64 p0.s.Drop, .int .i64 p0.s.Feed, .int .i64 p0.s.Travel, .int .i64 p0.s.Retract, .int .i64 p0.s.MinTime, .int .i64 p0.s.MinFeed, .int .i64 p0.s.Nozzle, .int .i64 p0.s.Bed, .int .i64 p0.nozzle.X, .int .i64 p0.nozzle.Y]) → H 1000000 = some (.arr 0 6 40 (Jn Jz (FS.lst le000).l) false) → jt (FC env) 24 H [.ptr 0 0 0, .agg [.int .i64 2, .int .i64 0, .int .i64 0, .int .i64 0, .int .i64 v6, encF Jh v16]] = some (.tup [], upd (upd H 1000000 (some (.arr 1 6 40 (Jn Jz (FS.lst l46).l) false))) 0 (some (.box 0 [.arr 1000000 1 0 (FS.lst l46).l.length, encF Jl v43.r.Rows, .int .i64 v43.s.Pitch, .int .i64 v43.s.Height, .int .i64 v43.s.Walls, .int .i64 v43.s.Top, .int .i64 v43.s.Bottom, .int .i64 v43.s.Pattern, .int .i64 v43.s.Spacing, .bool v43.s.Support, .int .i64 v43.s.Reach, .int .i64 v43.s.Gap, .int .i64 v43.s.Brim, .int .i64 v43.s.Skirt, .int .i64 v43.s.Drop, .int .i64 v43.s.Feed, .int .i64 v43.s.Travel, .int .i64 v43.s.Retract, .int .i64 v43.s.MinTime, .int .i64 v43.s.MinFeed, .int .i64 v43.s.Nozzle, .int .i64 v43.s.Bed, .int .i64 v43.nozzle.X, .int .i64 v43.nozzle.Y]))) := by
              intro H q0 q1
              simp (maxSteps := 4000000) [q0, q1, f44]
            cases h
            refine ⟨?_, by first | exact ⟨_, rfl⟩ | exact ⟨_, by assumption⟩⟩
            refine Zr (lf := lf66) rfl rfl rfl ?_
            simp only [lf66, lc66]
            rcases tof (ieq p0.nozzle.X p1.X) with a48 | a48
            · rcases tof (ieq p0.nozzle.Y p1.Y) with a49 | a49
              · simp [a48, a49] at c1
              · rcases tof v9.2 with a50 | a50
                · simp [a48, a49, a50] at c10
                · rcases tof (ine p0.s.Retract 0) with a51 | a51
                  · simp [a48, a49, a50, a51] at c17
                  · try simp only [a48, a49, a50, a51] at f4 f44
                    simp (maxSteps := 4000000) [-Qq, a48, a49, a50, a51, e000, Yd (e := Jz) (el := 40) (fz := false), f4, f7, f11, f14, e45, f47, f44]
            · rcases tof v9.2 with a52 | a52
              · simp [a48, a52] at c10
              · rcases tof (ine p0.s.Retract 0) with a53 | a53
                · simp [a48, a52, a53] at c17
                · try simp only [a48, a52, a53] at f4 f44
                  simp (maxSteps := 4000000) [-Qq, a48, a52, a53, e000, Yd (e := Jz) (el := 40) (fz := false), f4, f7, f11, f14, e45, f47, f44]
     · rw [if_neg c10] at h
       rw [Bool.not_eq_true] at c10
       cases h55 : fsl v9.1 1 (flen v9.1) with
       | none => (rw [h55, K1] at h; cases h)
       | some v56 =>
        rw [h55, K2] at h
        have f54 := Jfp (e := Jh) h55
        by_cases c57 : (band (bnot v9.2) (ine p0.s.Retract 0)) = true
        · rw [if_pos c57] at h
          cases h58 : Je (⟨(⟨(FS.lst le000)⟩ : Jp), p0.r, p0.s, p0.nozzle⟩ : Jd) (⟨4, 0, 0, 0, 0, (FS.nil : (FS Ja))⟩ : Jr) with
          | none => (rw [h58, K1] at h; cases h)
          | some v59 =>
           rw [h58, K2] at h
           obtain ⟨f60, ⟨l62, e61⟩⟩ := Jx rfl h58
           simp only [e61] at f60
           try simp only [e61] at h
           try simp only [J8, Xs, Jj, Ji, Jm, Jw, Jt, Ju, Jv, Js] at f60
           try simp only [Jj, Ji, Jm, Jw, Jt, Ju, Jv, Js] at f60
           have f63 : ∀ H : Heap, H 0 = some (.box 0 [.arr 1000000 0 0 (FS.lst le000).l.length, encF Jl p0.r.Rows, .int .i64 p0.s.Pitch, .int .i64 p0.s.Height, .int .i64 p0.s.Walls, .int .i64 p0.s.Top, .int .i64 p0.s.Bottom, .int .i64 p0.s.Pattern, .int .i64 p0.s.Spacing, .bool p0.s.Support, .int .i64 p0.s.Reach, .int .i64 p0.s.Gap, .int .i64 p0.s.Brim, .int .i64 p0.s.Skirt, .int .i64 p0.s.Drop, .int .i64 p0.s.Feed, .int .i64 p0.s.Travel, .int .i64 p0.s.Retract, .int .i64 p0.s.MinTime, .int .i64 p0.s.MinFeed, .int .i64 p0.s.Nozzle, .int .i64 p0.s.Bed, .int .i64 p0.nozzle.X, .int .i64 p0.nozzle.Y]) → H 1000000 = some (.arr 0 6 40 (Jn Jz (FS.lst le000).l) false) → jt (FC env) 24 H [.ptr 0 0 0, .agg [.int .i64 4, .int .i64 0, .int .i64 0, .int .i64 0, .int .i64 0, .nils]] = some (.tup [], upd (upd H 1000000 (some (.arr 1 6 40 (Jn Jz (FS.lst l62).l) false))) 0 (some (.box 0 [.arr 1000000 1 0 (FS.lst l62).l.length, encF Jl v59.r.Rows, .int .i64 v59.s.Pitch, .int .i64 v59.s.Height, .int .i64 v59.s.Walls, .int .i64 v59.s.Top, .int .i64 v59.s.Bottom, .int .i64 v59.s.Pattern, .int .i64 v59.s.Spacing, .bool v59.s.Support, .int .i64 v59.s.Reach, .int .i64 v59.s.Gap, .int .i64 v59.s.Brim, .int .i64 v59.s.Skirt, .int .i64 v59.s.Drop, .int .i64 v59.s.Feed, .int .i64 v59.s.Travel, .int .i64 v59.s.Retract, .int .i64 v59.s.MinTime, .int .i64 v59.s.MinFeed, .int .i64 v59.s.Nozzle, .int .i64 v59.s.Bed, .int .i64 v59.nozzle.X, .int .i64 v59.nozzle.Y]))) := by
             intro H q0 q1
             simp (maxSteps := 4000000) [q0, q1, f60]
           cases h64 : Je (⟨(⟨(FS.lst l62)⟩ : Jp), v59.r, v59.s, v59.nozzle⟩ : Jd) (⟨2, 0, 0, 0, v6, v56⟩ : Jr) with
           | none => (rw [h64, K1] at h; cases h)
           | some v65 =>
            rw [h64, K2] at h
            obtain ⟨f66, ⟨l68, e67⟩⟩ := Jx rfl h64
            simp only [e67] at f66
            try simp only [e67] at h
            try simp only [J8, Xs, Jj, Ji, Jm, Jw, Jt, Ju, Jv, Js] at f66
            try simp only [Jj, Ji, Jm, Jw, Jt, Ju, Jv, Js] at f66
            have f69 : ∀ H : Heap, H 0 = some (.box 0 [.arr 1000000 1 0 (FS.lst l62).l.length, encF Jl v59.r.Rows, .int .i64 v59.s.Pitch, .int .i64 v59.s.Height, .int .i64 v59.s.Walls, .int .i64 v59.s.Top, .int .i64 v59.s.Bottom, .int .i64 v59.s.Pattern, .int .i64 v59.s.Spacing, .bool v59.s.Support, .int .i64 v59.s.Reach, .int .i64 v59.s.Gap, .int .i64 v59.s.Brim, .int .i64 v59.s.Skirt, .int .i64 v59.s.Drop, .int .i64 v59.s.Feed, .int .i64 v59.s.Travel, .int .i64 v59.s.Retract, .int .i64 v59.s.MinTime, .int .i64 v59.s.MinFeed, .int .i64 v59.s.Nozzle, .int .i64 v59.s.Bed, .int .i64 v59.nozzle.X, .int .i64 v59.nozzle.Y]) → H 1000000 = some (.arr 1 6 40 (Jn Jz (FS.lst l62).l) false) → jt (FC env) 24 H [.ptr 0 0 0, .agg [.int .i64 2, .int .i64 0, .int .i64 0, .int .i64 0, .int .i64 v6, encF Jh v56]] = some (.tup [], upd (upd H 1000000 (some (.arr 2 6 40 (Jn Jz (FS.lst l68).l) false))) 0 (some (.box 0 [.arr 1000000 2 0 (FS.lst l68).l.length, encF Jl v65.r.Rows, .int .i64 v65.s.Pitch, .int .i64 v65.s.Height, .int .i64 v65.s.Walls, .int .i64 v65.s.Top, .int .i64 v65.s.Bottom, .int .i64 v65.s.Pattern, .int .i64 v65.s.Spacing, .bool v65.s.Support, .int .i64 v65.s.Reach, .int .i64 v65.s.Gap, .int .i64 v65.s.Brim, .int .i64 v65.s.Skirt, .int .i64 v65.s.Drop, .int .i64 v65.s.Feed, .int .i64 v65.s.Travel, .int .i64 v65.s.Retract, .int .i64 v65.s.MinTime, .int .i64 v65.s.MinFeed, .int .i64 v65.s.Nozzle, .int .i64 v65.s.Bed, .int .i64 v65.nozzle.X, .int .i64 v65.nozzle.Y]))) := by
              intro H q0 q1
              simp (maxSteps := 4000000) [q0, q1, f66]
            cases h70 : Je (⟨(⟨(FS.lst l68)⟩ : Jp), v65.r, v65.s, v65.nozzle⟩ : Jd) (⟨5, 0, 0, 0, 0, (FS.nil : (FS Ja))⟩ : Jr) with
            | none => (rw [h70, K1] at h; cases h)
            | some v71 =>
             rw [h70, K2] at h
             obtain ⟨f72, ⟨l74, e73⟩⟩ := Jx rfl h70
             simp only [e73] at f72
             try simp only [e73] at h
             try simp only [J8, Xs, Jj, Ji, Jm, Jw, Jt, Ju, Jv, Js] at f72
             try simp only [Jj, Ji, Jm, Jw, Jt, Ju, Jv, Js] at f72
             have f75 : ∀ H : Heap, H 0 = some (.box 0 [.arr 1000000 2 0 (FS.lst l68).l.length, encF Jl v65.r.Rows, .int .i64 v65.s.Pitch, .int .i64 v65.s.Height, .int .i64 v65.s.Walls, .int .i64 v65.s.Top, .int .i64 v65.s.Bottom, .int .i64 v65.s.Pattern, .int .i64 v65.s.Spacing, .bool v65.s.Support, .int .i64 v65.s.Reach, .int .i64 v65.s.Gap, .int .i64 v65.s.Brim, .int .i64 v65.s.Skirt, .int .i64 v65.s.Drop, .int .i64 v65.s.Feed, .int .i64 v65.s.Travel, .int .i64 v65.s.Retract, .int .i64 v65.s.MinTime, .int .i64 v65.s.MinFeed, .int .i64 v65.s.Nozzle, .int .i64 v65.s.Bed, .int .i64 v65.nozzle.X, .int .i64 v65.nozzle.Y]) → H 1000000 = some (.arr 2 6 40 (Jn Jz (FS.lst l68).l) false) → jt (FC env) 24 H [.ptr 0 0 0, .agg [.int .i64 5, .int .i64 0, .int .i64 0, .int .i64 0, .int .i64 0, .nils]] = some (.tup [], upd (upd H 1000000 (some (.arr 3 6 40 (Jn Jz (FS.lst l74).l) false))) 0 (some (.box 0 [.arr 1000000 3 0 (FS.lst l74).l.length, encF Jl v71.r.Rows, .int .i64 v71.s.Pitch, .int .i64 v71.s.Height, .int .i64 v71.s.Walls, .int .i64 v71.s.Top, .int .i64 v71.s.Bottom, .int .i64 v71.s.Pattern, .int .i64 v71.s.Spacing, .bool v71.s.Support, .int .i64 v71.s.Reach, .int .i64 v71.s.Gap, .int .i64 v71.s.Brim, .int .i64 v71.s.Skirt, .int .i64 v71.s.Drop, .int .i64 v71.s.Feed, .int .i64 v71.s.Travel, .int .i64 v71.s.Retract, .int .i64 v71.s.MinTime, .int .i64 v71.s.MinFeed, .int .i64 v71.s.Nozzle, .int .i64 v71.s.Bed, .int .i64 v71.nozzle.X, .int .i64 v71.nozzle.Y]))) := by
               intro H q0 q1
               simp (maxSteps := 4000000) [q0, q1, f72]
             cases h
             refine ⟨?_, by first | exact ⟨_, rfl⟩ | exact ⟨_, by assumption⟩⟩
             refine Zr (lf := lf66) rfl rfl rfl ?_
             simp only [lf66, lc66]
             rcases tof (ieq p0.nozzle.X p1.X) with a76 | a76
             · rcases tof (ieq p0.nozzle.Y p1.Y) with a77 | a77
               · simp [a76, a77] at c1
               · rcases tof v9.2 with a78 | a78
                 · simp [a76, a77, a78] at c57
                 · simp [a76, a77, a78] at c10
             · rcases tof v9.2 with a79 | a79
               · simp [a76, a79] at c57
               · simp [a76, a79] at c10
        · rw [if_neg c57] at h
          rw [Bool.not_eq_true] at c57
          cases h80 : Je (⟨(⟨(FS.lst le000)⟩ : Jp), p0.r, p0.s, p0.nozzle⟩ : Jd) (⟨2, 0, 0, 0, v6, v56⟩ : Jr) with
          | none => (rw [h80, K1] at h; cases h)
          | some v81 =>
           rw [h80, K2] at h
           obtain ⟨f82, ⟨l84, e83⟩⟩ := Jx rfl h80
           simp only [e83] at f82
           try simp only [e83] at h
           try simp only [J8, Xs, Jj, Ji, Jm, Jw, Jt, Ju, Jv, Js] at f82
           try simp only [Jj, Ji, Jm, Jw, Jt, Ju, Jv, Js] at f82
           have f85 : ∀ H : Heap, H 0 = some (.box 0 [.arr 1000000 0 0 (FS.lst le000).l.length, encF Jl p0.r.Rows, .int .i64 p0.s.Pitch, .int .i64 p0.s.Height, .int .i64 p0.s.Walls, .int .i64 p0.s.Top, .int .i64 p0.s.Bottom, .int .i64 p0.s.Pattern, .int .i64 p0.s.Spacing, .bool p0.s.Support, .int .i64 p0.s.Reach, .int .i64 p0.s.Gap, .int .i64 p0.s.Brim, .int .i64 p0.s.Skirt, .int .i64 p0.s.Drop, .int .i64 p0.s.Feed, .int .i64 p0.s.Travel, .int .i64 p0.s.Retract, .int .i64 p0.s.MinTime, .int .i64 p0.s.MinFeed, .int .i64 p0.s.Nozzle, .int .i64 p0.s.Bed, .int .i64 p0.nozzle.X, .int .i64 p0.nozzle.Y]) → H 1000000 = some (.arr 0 6 40 (Jn Jz (FS.lst le000).l) false) → jt (FC env) 24 H [.ptr 0 0 0, .agg [.int .i64 2, .int .i64 0, .int .i64 0, .int .i64 0, .int .i64 v6, encF Jh v56]] = some (.tup [], upd (upd H 1000000 (some (.arr 1 6 40 (Jn Jz (FS.lst l84).l) false))) 0 (some (.box 0 [.arr 1000000 1 0 (FS.lst l84).l.length, encF Jl v81.r.Rows, .int .i64 v81.s.Pitch, .int .i64 v81.s.Height, .int .i64 v81.s.Walls, .int .i64 v81.s.Top, .int .i64 v81.s.Bottom, .int .i64 v81.s.Pattern, .int .i64 v81.s.Spacing, .bool v81.s.Support, .int .i64 v81.s.Reach, .int .i64 v81.s.Gap, .int .i64 v81.s.Brim, .int .i64 v81.s.Skirt, .int .i64 v81.s.Drop, .int .i64 v81.s.Feed, .int .i64 v81.s.Travel, .int .i64 v81.s.Retract, .int .i64 v81.s.MinTime, .int .i64 v81.s.MinFeed, .int .i64 v81.s.Nozzle, .int .i64 v81.s.Bed, .int .i64 v81.nozzle.X, .int .i64 v81.nozzle.Y]))) := by
             intro H q0 q1
             simp (maxSteps := 4000000) [q0, q1, f82]
           cases h
           refine ⟨?_, by first | exact ⟨_, rfl⟩ | exact ⟨_, by assumption⟩⟩
           refine Zr (lf := lf66) rfl rfl rfl ?_
           simp only [lf66, lc66]
           rcases tof (ieq p0.nozzle.X p1.X) with a86 | a86
           · rcases tof (ieq p0.nozzle.Y p1.Y) with a87 | a87
             · simp [a86, a87] at c1
             · rcases tof v9.2 with a88 | a88
               · try simp only [a86, a87, a88] at f4 f82
                 simp (maxSteps := 4000000) [-Qq, a86, a87, a88, e000, Yd (e := Jz) (el := 40) (fz := false), f4, f7, f54, e83, f85, f82]
               · simp [a86, a87, a88] at c10
           · rcases tof v9.2 with a89 | a89
             · try simp only [a86, a89] at f4 f82
               simp (maxSteps := 4000000) [-Qq, a86, a89, e000, Yd (e := Jz) (el := 40) (fz := false), f4, f7, f54, e83, f85, f82]
             · simp [a86, a89] at c10

/-! toolpath.builder).print -/
attribute [simp] c44_0 c44_1 c44_2 c44_3
def Q7 (p0 : Jd) (p1 : Jc) : Option Jd := (Jdo (fget p1.Cells 0) fun v3 => (Jdo (Qw (⟨(⟨p0.list.ops⟩ : Jp), p0.r, p0.s, p0.nozzle⟩ : Jd) v3) fun v5 => (Jdo (Qf (⟨(⟨v5.list.ops⟩ : Jp), v5.r, v5.s, v5.nozzle⟩ : Jd) v5.s.Feed) fun v9 => (if fits 16 ((flen (flit ([] : List Ja))) + (flen p1.Cells)) = true then (Jdo (Je (⟨(⟨v5.list.ops⟩ : Jp), v5.r, v5.s, v5.nozzle⟩ : Jd) (⟨3, p1.Role, 0, 0, v9, (fapp (flit ([] : List Ja)) p1.Cells)⟩ : Jr)) fun v14 => (Jdo (fget p1.Cells (isub .i64 (flen p1.Cells) 1)) fun v18 => some (⟨(⟨v14.list.ops⟩ : Jp), v14.r, v14.s, v18⟩ : Jd))) else none))))
theorem Jcj {p0 : Jd} {p1 : Jc} (e000 : p0.list.ops = FS.nil) {r : Jd} (h : Q7 p0 p1 = some r) : FC env 44 [.ptr 0 0 0, .agg [.int .i64 p1.Role, .bool p1.Closed, encF Jh p1.Cells]] (some (hl [(0, .box 0 [.nils, encF Jl p0.r.Rows, .int .i64 p0.s.Pitch, .int .i64 p0.s.Height, .int .i64 p0.s.Walls, .int .i64 p0.s.Top, .int .i64 p0.s.Bottom, .int .i64 p0.s.Pattern, .int .i64 p0.s.Spacing, .bool p0.s.Support, .int .i64 p0.s.Reach, .int .i64 p0.s.Gap, .int .i64 p0.s.Brim, .int .i64 p0.s.Skirt, .int .i64 p0.s.Drop, .int .i64 p0.s.Feed, .int .i64 p0.s.Travel, .int .i64 p0.s.Retract, .int .i64 p0.s.MinTime, .int .i64 p0.s.MinFeed, .int .i64 p0.s.Nozzle, .int .i64 p0.s.Bed, .int .i64 p0.nozzle.X, .int .i64 p0.nozzle.Y])], 0)) = some (.tup [], hl [(0, .box 0 [.arr 1000000 0 0 r.list.ops.l.length, encF Jl r.r.Rows, .int .i64 r.s.Pitch, .int .i64 r.s.Height, .int .i64 r.s.Walls, .int .i64 r.s.Top, .int .i64 r.s.Bottom, .int .i64 r.s.Pattern, .int .i64 r.s.Spacing, .bool r.s.Support, .int .i64 r.s.Reach, .int .i64 r.s.Gap, .int .i64 r.s.Brim, .int .i64 r.s.Skirt, .int .i64 r.s.Drop, .int .i64 r.s.Feed, .int .i64 r.s.Travel, .int .i64 r.s.Retract, .int .i64 r.s.MinTime, .int .i64 r.s.MinFeed, .int .i64 r.s.Nozzle, .int .i64 r.s.Bed, .int .i64 r.nozzle.X, .int .i64 r.nozzle.Y]), (1000000, .arr 0 6 40 (Jn Jz r.list.ops.l) false)]) ∧ ∃ l, r.list.ops = FS.lst l := by
 unfold Q7 at h
 simp only [e000, J3] at h
 cases h2 : fget p1.Cells 0 with
 | none => (rw [h2, K1] at h; cases h)
 | some v3 =>
  rw [h2, K2] at h
  have f1 := K5 (e := Jh) h2
  cases h4 : Qw (⟨(⟨(FS.nil : (FS Jr))⟩ : Jp), p0.r, p0.s, p0.nozzle⟩ : Jd) v3 with
  | none => (rw [h4, K1] at h; cases h)
  | some v5 =>
   rw [h4, K2] at h
   have f6 := Jb7 rfl h4
   try simp only [J8, Xs, Jj, Ji, Jm, Jw, Jt, Ju, Jv, Js] at f6
   cases e8 : v5.list.ops with
   | nil =>
    try simp only [e8, J3] at h
    simp only [e8, J3, Jj, Ji] at f6
    have f9 : ∀ H : Heap, H 0 = some (.box 0 [.nils, encF Jl p0.r.Rows, .int .i64 p0.s.Pitch, .int .i64 p0.s.Height, .int .i64 p0.s.Walls, .int .i64 p0.s.Top, .int .i64 p0.s.Bottom, .int .i64 p0.s.Pattern, .int .i64 p0.s.Spacing, .bool p0.s.Support, .int .i64 p0.s.Reach, .int .i64 p0.s.Gap, .int .i64 p0.s.Brim, .int .i64 p0.s.Skirt, .int .i64 p0.s.Drop, .int .i64 p0.s.Feed, .int .i64 p0.s.Travel, .int .i64 p0.s.Retract, .int .i64 p0.s.MinTime, .int .i64 p0.s.MinFeed, .int .i64 p0.s.Nozzle, .int .i64 p0.s.Bed, .int .i64 p0.nozzle.X, .int .i64 p0.nozzle.Y]) → jt (FC env) 66 H [.ptr 0 0 0, .agg [.int .i64 v3.X, .int .i64 v3.Y]] = some (.tup [], upd H 0 (some (.box 0 [.nils, encF Jl v5.r.Rows, .int .i64 v5.s.Pitch, .int .i64 v5.s.Height, .int .i64 v5.s.Walls, .int .i64 v5.s.Top, .int .i64 v5.s.Bottom, .int .i64 v5.s.Pattern, .int .i64 v5.s.Spacing, .bool v5.s.Support, .int .i64 v5.s.Reach, .int .i64 v5.s.Gap, .int .i64 v5.s.Brim, .int .i64 v5.s.Skirt, .int .i64 v5.s.Drop, .int .i64 v5.s.Feed, .int .i64 v5.s.Travel, .int .i64 v5.s.Retract, .int .i64 v5.s.MinTime, .int .i64 v5.s.MinFeed, .int .i64 v5.s.Nozzle, .int .i64 v5.s.Bed, .int .i64 v5.nozzle.X, .int .i64 v5.nozzle.Y]))) := by
      intro H q0
      simp (maxSteps := 4000000) [q0, f6, e8]
    cases h11 : Qf (⟨(⟨(FS.nil : (FS Jr))⟩ : Jp), v5.r, v5.s, v5.nozzle⟩ : Jd) v5.s.Feed with
    | none => (rw [h11, K1] at h; cases h)
    | some v12 =>
     rw [h11, K2] at h
     have f10 := Za h11
     try simp only [Xs] at f10
     have f13 : ∀ (H : Heap) (g0 : Nat), bslV H g0 0 2 27 (some []) = some (.arr g0 (K7 H g0) 0 (flit ([] : List Ja)).l.length, upd H g0 (some (.arr (K7 H g0) 2 27 (Jn Jh (flit ([] : List Ja)).l) false))) := fun H g0 => rfl
     by_cases h15 : fits 16 ((flen (flit ([] : List Ja))) + (flen p1.Cells)) = true
     · rw [if_pos h15] at h
       have f14 := fun g0 H => @Jb4 _ _ Jh _ (flit ([] : List Ja)) p1.Cells 16 h15 (by decide) g0 H 22 0 27
       cases h16 : Je (⟨(⟨(FS.nil : (FS Jr))⟩ : Jp), v5.r, v5.s, v5.nozzle⟩ : Jd) (⟨3, p1.Role, 0, 0, v12, (fapp (flit ([] : List Ja)) p1.Cells)⟩ : Jr) with
       | none => (rw [h16, K1] at h; cases h)
       | some v17 =>
        rw [h16, K2] at h
        obtain ⟨f18, ⟨l20, e19⟩⟩ := Ky rfl h16
        simp only [e19] at f18
        try simp only [e19] at h
        try simp only [J8, Xs, Jj, Ji, Jm, Jw, Jt, Ju, Jv, Js] at f18
        try simp only [Jj, Ji, Jm, Jw, Jt, Ju, Jv, Js] at f18
        have f21 : ∀ H : Heap, H 0 = some (.box 0 [.nils, encF Jl v5.r.Rows, .int .i64 v5.s.Pitch, .int .i64 v5.s.Height, .int .i64 v5.s.Walls, .int .i64 v5.s.Top, .int .i64 v5.s.Bottom, .int .i64 v5.s.Pattern, .int .i64 v5.s.Spacing, .bool v5.s.Support, .int .i64 v5.s.Reach, .int .i64 v5.s.Gap, .int .i64 v5.s.Brim, .int .i64 v5.s.Skirt, .int .i64 v5.s.Drop, .int .i64 v5.s.Feed, .int .i64 v5.s.Travel, .int .i64 v5.s.Retract, .int .i64 v5.s.MinTime, .int .i64 v5.s.MinFeed, .int .i64 v5.s.Nozzle, .int .i64 v5.s.Bed, .int .i64 v5.nozzle.X, .int .i64 v5.nozzle.Y]) → H 1000000 = none → jt (FC env) 24 H [.ptr 0 0 0, .agg [.int .i64 3, .int .i64 p1.Role, .int .i64 0, .int .i64 0, .int .i64 v12, encF Jh (fapp (flit ([] : List Ja)) p1.Cells)]] = some (.tup [], upd (upd H 1000000 (some (.arr 0 6 40 (Jn Jz (FS.lst l20).l) false))) 0 (some (.box 0 [.arr 1000000 0 0 (FS.lst l20).l.length, encF Jl v17.r.Rows, .int .i64 v17.s.Pitch, .int .i64 v17.s.Height, .int .i64 v17.s.Walls, .int .i64 v17.s.Top, .int .i64 v17.s.Bottom, .int .i64 v17.s.Pattern, .int .i64 v17.s.Spacing, .bool v17.s.Support, .int .i64 v17.s.Reach, .int .i64 v17.s.Gap, .int .i64 v17.s.Brim, .int .i64 v17.s.Skirt, .int .i64 v17.s.Drop, .int .i64 v17.s.Feed, .int .i64 v17.s.Travel, .int .i64 v17.s.Retract, .int .i64 v17.s.MinTime, .int .i64 v17.s.MinFeed, .int .i64 v17.s.Nozzle, .int .i64 v17.s.Bed, .int .i64 v17.nozzle.X, .int .i64 v17.nozzle.Y]))) := by
          intro H q0 q1
          simp (maxSteps := 4000000) [q0, q1, f18]
        cases h23 : fget p1.Cells (isub .i64 (flen p1.Cells) 1) with
        | none => (rw [h23, K1] at h; cases h)
        | some v24 =>
         rw [h23, K2] at h
         have f22 := K5 (e := Jh) h23
         cases h
         refine ⟨?_, by first | exact ⟨_, rfl⟩ | exact ⟨_, by assumption⟩⟩
         refine Zr (lf := lf44) rfl rfl rfl ?_
         simp only [lf44, lc44]
         simp (maxSteps := 4000000) [-Qq, e000, f1, e8, f9, f6, f10, f13, f14, Yd (e := Jh) (el := 27) (fz := false), e19, f21, f18, f22]
     · rw [if_neg h15] at h; cases h
   | lst l7 =>
    try simp only [e8] at h
    simp only [e8, J3, Jj, Ji] at f6
    have f25 : ∀ H : Heap, H 0 = some (.box 0 [.nils, encF Jl p0.r.Rows, .int .i64 p0.s.Pitch, .int .i64 p0.s.Height, .int .i64 p0.s.Walls, .int .i64 p0.s.Top, .int .i64 p0.s.Bottom, .int .i64 p0.s.Pattern, .int .i64 p0.s.Spacing, .bool p0.s.Support, .int .i64 p0.s.Reach, .int .i64 p0.s.Gap, .int .i64 p0.s.Brim, .int .i64 p0.s.Skirt, .int .i64 p0.s.Drop, .int .i64 p0.s.Feed, .int .i64 p0.s.Travel, .int .i64 p0.s.Retract, .int .i64 p0.s.MinTime, .int .i64 p0.s.MinFeed, .int .i64 p0.s.Nozzle, .int .i64 p0.s.Bed, .int .i64 p0.nozzle.X, .int .i64 p0.nozzle.Y]) → H 1000000 = none → jt (FC env) 66 H [.ptr 0 0 0, .agg [.int .i64 v3.X, .int .i64 v3.Y]] = some (.tup [], upd (upd H 1000000 (some (.arr 0 6 40 (Jn Jz (FS.lst l7).l) false))) 0 (some (.box 0 [.arr 1000000 0 0 (FS.lst l7).l.length, encF Jl v5.r.Rows, .int .i64 v5.s.Pitch, .int .i64 v5.s.Height, .int .i64 v5.s.Walls, .int .i64 v5.s.Top, .int .i64 v5.s.Bottom, .int .i64 v5.s.Pattern, .int .i64 v5.s.Spacing, .bool v5.s.Support, .int .i64 v5.s.Reach, .int .i64 v5.s.Gap, .int .i64 v5.s.Brim, .int .i64 v5.s.Skirt, .int .i64 v5.s.Drop, .int .i64 v5.s.Feed, .int .i64 v5.s.Travel, .int .i64 v5.s.Retract, .int .i64 v5.s.MinTime, .int .i64 v5.s.MinFeed, .int .i64 v5.s.Nozzle, .int .i64 v5.s.Bed, .int .i64 v5.nozzle.X, .int .i64 v5.nozzle.Y]))) := by
      intro H q0 q1
      simp (maxSteps := 4000000) [q0, q1, f6, e8]
    cases h27 : Qf (⟨(⟨(FS.lst l7)⟩ : Jp), v5.r, v5.s, v5.nozzle⟩ : Jd) v5.s.Feed with
    | none => (rw [h27, K1] at h; cases h)
    | some v28 =>
     rw [h27, K2] at h
     have f26 := Za h27
     have f29 : ∀ (H : Heap) (g0 : Nat), bslV H g0 0 2 27 (some []) = some (.arr g0 (K7 H g0) 0 (flit ([] : List Ja)).l.length, upd H g0 (some (.arr (K7 H g0) 2 27 (Jn Jh (flit ([] : List Ja)).l) false))) := fun H g0 => rfl
     by_cases h31 : fits 16 ((flen (flit ([] : List Ja))) + (flen p1.Cells)) = true
     · rw [if_pos h31] at h
       have f30 := fun g0 H => @Jb4 _ _ Jh _ (flit ([] : List Ja)) p1.Cells 16 h31 (by decide) g0 H 22 0 27
       cases h32 : Je (⟨(⟨(FS.lst l7)⟩ : Jp), v5.r, v5.s, v5.nozzle⟩ : Jd) (⟨3, p1.Role, 0, 0, v28, (fapp (flit ([] : List Ja)) p1.Cells)⟩ : Jr) with
       | none => (rw [h32, K1] at h; cases h)
       | some v33 =>
        rw [h32, K2] at h
        obtain ⟨f34, ⟨l36, e35⟩⟩ := Jx rfl h32
        simp only [e35] at f34
        try simp only [e35] at h
        try simp only [J8, Xs, Jj, Ji, Jm, Jw, Jt, Ju, Jv, Js] at f34
        try simp only [Jj, Ji, Jm, Jw, Jt, Ju, Jv, Js] at f34
        have f37 : ∀ H : Heap, H 0 = some (.box 0 [.arr 1000000 0 0 (FS.lst l7).l.length, encF Jl v5.r.Rows, .int .i64 v5.s.Pitch, .int .i64 v5.s.Height, .int .i64 v5.s.Walls, .int .i64 v5.s.Top, .int .i64 v5.s.Bottom, .int .i64 v5.s.Pattern, .int .i64 v5.s.Spacing, .bool v5.s.Support, .int .i64 v5.s.Reach, .int .i64 v5.s.Gap, .int .i64 v5.s.Brim, .int .i64 v5.s.Skirt, .int .i64 v5.s.Drop, .int .i64 v5.s.Feed, .int .i64 v5.s.Travel, .int .i64 v5.s.Retract, .int .i64 v5.s.MinTime, .int .i64 v5.s.MinFeed, .int .i64 v5.s.Nozzle, .int .i64 v5.s.Bed, .int .i64 v5.nozzle.X, .int .i64 v5.nozzle.Y]) → H 1000000 = some (.arr 0 6 40 (Jn Jz (FS.lst l7).l) false) → jt (FC env) 24 H [.ptr 0 0 0, .agg [.int .i64 3, .int .i64 p1.Role, .int .i64 0, .int .i64 0, .int .i64 v28, encF Jh (fapp (flit ([] : List Ja)) p1.Cells)]] = some (.tup [], upd (upd H 1000000 (some (.arr 1 6 40 (Jn Jz (FS.lst l36).l) false))) 0 (some (.box 0 [.arr 1000000 1 0 (FS.lst l36).l.length, encF Jl v33.r.Rows, .int .i64 v33.s.Pitch, .int .i64 v33.s.Height, .int .i64 v33.s.Walls, .int .i64 v33.s.Top, .int .i64 v33.s.Bottom, .int .i64 v33.s.Pattern, .int .i64 v33.s.Spacing, .bool v33.s.Support, .int .i64 v33.s.Reach, .int .i64 v33.s.Gap, .int .i64 v33.s.Brim, .int .i64 v33.s.Skirt, .int .i64 v33.s.Drop, .int .i64 v33.s.Feed, .int .i64 v33.s.Travel, .int .i64 v33.s.Retract, .int .i64 v33.s.MinTime, .int .i64 v33.s.MinFeed, .int .i64 v33.s.Nozzle, .int .i64 v33.s.Bed, .int .i64 v33.nozzle.X, .int .i64 v33.nozzle.Y]))) := by
          intro H q0 q1
          simp (maxSteps := 4000000) [q0, q1, f34]
        cases h39 : fget p1.Cells (isub .i64 (flen p1.Cells) 1) with
        | none => (rw [h39, K1] at h; cases h)
        | some v40 =>
         rw [h39, K2] at h
         have f38 := K5 (e := Jh) h39
         cases h
         refine ⟨?_, by first | exact ⟨_, rfl⟩ | exact ⟨_, by assumption⟩⟩
         refine Zr (lf := lf44) rfl rfl rfl ?_
         simp only [lf44, lc44]
         simp (maxSteps := 4000000) [-Qq, e000, f1, e8, f25, f6, Yd (e := Jz) (el := 40) (fz := false), f26, f29, f30, Yd (e := Jh) (el := 27) (fz := false), e35, f37, f34, f38]
     · rw [if_neg h31] at h; cases h
theorem Jci {p0 : Jd} {p1 : Jc} {le000 : List Jr} (e000 : p0.list.ops = FS.lst le000) {r : Jd} (h : Q7 p0 p1 = some r) : FC env 44 [.ptr 0 0 0, .agg [.int .i64 p1.Role, .bool p1.Closed, encF Jh p1.Cells]] (some (hl [(0, .box 0 [.arr 1000000 0 0 p0.list.ops.l.length, encF Jl p0.r.Rows, .int .i64 p0.s.Pitch, .int .i64 p0.s.Height, .int .i64 p0.s.Walls, .int .i64 p0.s.Top, .int .i64 p0.s.Bottom, .int .i64 p0.s.Pattern, .int .i64 p0.s.Spacing, .bool p0.s.Support, .int .i64 p0.s.Reach, .int .i64 p0.s.Gap, .int .i64 p0.s.Brim, .int .i64 p0.s.Skirt, .int .i64 p0.s.Drop, .int .i64 p0.s.Feed, .int .i64 p0.s.Travel, .int .i64 p0.s.Retract, .int .i64 p0.s.MinTime, .int .i64 p0.s.MinFeed, .int .i64 p0.s.Nozzle, .int .i64 p0.s.Bed, .int .i64 p0.nozzle.X, .int .i64 p0.nozzle.Y]), (1000000, .arr 0 6 40 (Jn Jz p0.list.ops.l) false)], 0)) = some (.tup [], hl [(0, .box 0 [.arr 1000000 0 0 r.list.ops.l.length, encF Jl r.r.Rows, .int .i64 r.s.Pitch, .int .i64 r.s.Height, .int .i64 r.s.Walls, .int .i64 r.s.Top, .int .i64 r.s.Bottom, .int .i64 r.s.Pattern, .int .i64 r.s.Spacing, .bool r.s.Support, .int .i64 r.s.Reach, .int .i64 r.s.Gap, .int .i64 r.s.Brim, .int .i64 r.s.Skirt, .int .i64 r.s.Drop, .int .i64 r.s.Feed, .int .i64 r.s.Travel, .int .i64 r.s.Retract, .int .i64 r.s.MinTime, .int .i64 r.s.MinFeed, .int .i64 r.s.Nozzle, .int .i64 r.s.Bed, .int .i64 r.nozzle.X, .int .i64 r.nozzle.Y]), (1000000, .arr 0 6 40 (Jn Jz r.list.ops.l) false)]) ∧ ∃ l, r.list.ops = FS.lst l := by
 unfold Q7 at h
 simp only [e000, J3] at h
 cases h2 : fget p1.Cells 0 with
 | none => (rw [h2, K1] at h; cases h)
 | some v3 =>
  rw [h2, K2] at h
  have f1 := K5 (e := Jh) h2
  cases h4 : Qw (⟨(⟨(FS.lst le000)⟩ : Jp), p0.r, p0.s, p0.nozzle⟩ : Jd) v3 with
  | none => (rw [h4, K1] at h; cases h)
  | some v5 =>
   rw [h4, K2] at h
   obtain ⟨f6, ⟨l8, e7⟩⟩ := Jb8 rfl h4
   simp only [e7] at f6
   try simp only [e7] at h
   try simp only [J8, Xs, Jj, Ji, Jm, Jw, Jt, Ju, Jv, Js] at f6
   try simp only [Jj, Ji, Jm, Jw, Jt, Ju, Jv, Js] at f6
   have f9 : ∀ H : Heap, H 0 = some (.box 0 [.arr 1000000 0 0 (FS.lst le000).l.length, encF Jl p0.r.Rows, .int .i64 p0.s.Pitch, .int .i64 p0.s.Height, .int .i64 p0.s.Walls, .int .i64 p0.s.Top, .int .i64 p0.s.Bottom, .int .i64 p0.s.Pattern, .int .i64 p0.s.Spacing, .bool p0.s.Support, .int .i64 p0.s.Reach, .int .i64 p0.s.Gap, .int .i64 p0.s.Brim, .int .i64 p0.s.Skirt, .int .i64 p0.s.Drop, .int .i64 p0.s.Feed, .int .i64 p0.s.Travel, .int .i64 p0.s.Retract, .int .i64 p0.s.MinTime, .int .i64 p0.s.MinFeed, .int .i64 p0.s.Nozzle, .int .i64 p0.s.Bed, .int .i64 p0.nozzle.X, .int .i64 p0.nozzle.Y]) → H 1000000 = some (.arr 0 6 40 (Jn Jz (FS.lst le000).l) false) → jt (FC env) 66 H [.ptr 0 0 0, .agg [.int .i64 v3.X, .int .i64 v3.Y]] = some (.tup [], upd (upd H 1000000 (some (.arr 1 6 40 (Jn Jz (FS.lst l8).l) false))) 0 (some (.box 0 [.arr 1000000 1 0 (FS.lst l8).l.length, encF Jl v5.r.Rows, .int .i64 v5.s.Pitch, .int .i64 v5.s.Height, .int .i64 v5.s.Walls, .int .i64 v5.s.Top, .int .i64 v5.s.Bottom, .int .i64 v5.s.Pattern, .int .i64 v5.s.Spacing, .bool v5.s.Support, .int .i64 v5.s.Reach, .int .i64 v5.s.Gap, .int .i64 v5.s.Brim, .int .i64 v5.s.Skirt, .int .i64 v5.s.Drop, .int .i64 v5.s.Feed, .int .i64 v5.s.Travel, .int .i64 v5.s.Retract, .int .i64 v5.s.MinTime, .int .i64 v5.s.MinFeed, .int .i64 v5.s.Nozzle, .int .i64 v5.s.Bed, .int .i64 v5.nozzle.X, .int .i64 v5.nozzle.Y]))) := by
     intro H q0 q1
     simp (maxSteps := 4000000) [q0, q1, f6]
   cases h11 : Qf (⟨(⟨(FS.lst l8)⟩ : Jp), v5.r, v5.s, v5.nozzle⟩ : Jd) v5.s.Feed with
   | none => (rw [h11, K1] at h; cases h)
   | some v12 =>
    rw [h11, K2] at h
    have f10 := Za h11
    have f13 : ∀ (H : Heap) (g0 : Nat), bslV H g0 0 2 27 (some []) = some (.arr g0 (K7 H g0) 0 (flit ([] : List Ja)).l.length, upd H g0 (some (.arr (K7 H g0) 2 27 (Jn Jh (flit ([] : List Ja)).l) false))) := fun H g0 => rfl
    by_cases h15 : fits 16 ((flen (flit ([] : List Ja))) + (flen p1.Cells)) = true
    · rw [if_pos h15] at h
      have f14 := fun g0 H => @Jb4 _ _ Jh _ (flit ([] : List Ja)) p1.Cells 16 h15 (by decide) g0 H 22 0 27
      cases h16 : Je (⟨(⟨(FS.lst l8)⟩ : Jp), v5.r, v5.s, v5.nozzle⟩ : Jd) (⟨3, p1.Role, 0, 0, v12, (fapp (flit ([] : List Ja)) p1.Cells)⟩ : Jr) with
      | none => (rw [h16, K1] at h; cases h)
      | some v17 =>
       rw [h16, K2] at h
       obtain ⟨f18, ⟨l20, e19⟩⟩ := Jx rfl h16
       simp only [e19] at f18
       try simp only [e19] at h
       try simp only [J8, Xs, Jj, Ji, Jm, Jw, Jt, Ju, Jv, Js] at f18
       try simp only [Jj, Ji, Jm, Jw, Jt, Ju, Jv, Js] at f18
       have f21 : ∀ H : Heap, H 0 = some (.box 0 [.arr 1000000 1 0 (FS.lst l8).l.length, encF Jl v5.r.Rows, .int .i64 v5.s.Pitch, .int .i64 v5.s.Height, .int .i64 v5.s.Walls, .int .i64 v5.s.Top, .int .i64 v5.s.Bottom, .int .i64 v5.s.Pattern, .int .i64 v5.s.Spacing, .bool v5.s.Support, .int .i64 v5.s.Reach, .int .i64 v5.s.Gap, .int .i64 v5.s.Brim, .int .i64 v5.s.Skirt, .int .i64 v5.s.Drop, .int .i64 v5.s.Feed, .int .i64 v5.s.Travel, .int .i64 v5.s.Retract, .int .i64 v5.s.MinTime, .int .i64 v5.s.MinFeed, .int .i64 v5.s.Nozzle, .int .i64 v5.s.Bed, .int .i64 v5.nozzle.X, .int .i64 v5.nozzle.Y]) → H 1000000 = some (.arr 1 6 40 (Jn Jz (FS.lst l8).l) false) → jt (FC env) 24 H [.ptr 0 0 0, .agg [.int .i64 3, .int .i64 p1.Role, .int .i64 0, .int .i64 0, .int .i64 v12, encF Jh (fapp (flit ([] : List Ja)) p1.Cells)]] = some (.tup [], upd (upd H 1000000 (some (.arr 2 6 40 (Jn Jz (FS.lst l20).l) false))) 0 (some (.box 0 [.arr 1000000 2 0 (FS.lst l20).l.length, encF Jl v17.r.Rows, .int .i64 v17.s.Pitch, .int .i64 v17.s.Height, .int .i64 v17.s.Walls, .int .i64 v17.s.Top, .int .i64 v17.s.Bottom, .int .i64 v17.s.Pattern, .int .i64 v17.s.Spacing, .bool v17.s.Support, .int .i64 v17.s.Reach, .int .i64 v17.s.Gap, .int .i64 v17.s.Brim, .int .i64 v17.s.Skirt, .int .i64 v17.s.Drop, .int .i64 v17.s.Feed, .int .i64 v17.s.Travel, .int .i64 v17.s.Retract, .int .i64 v17.s.MinTime, .int .i64 v17.s.MinFeed, .int .i64 v17.s.Nozzle, .int .i64 v17.s.Bed, .int .i64 v17.nozzle.X, .int .i64 v17.nozzle.Y]))) := by
         intro H q0 q1
         simp (maxSteps := 4000000) [q0, q1, f18]
       cases h23 : fget p1.Cells (isub .i64 (flen p1.Cells) 1) with
       | none => (rw [h23, K1] at h; cases h)
       | some v24 =>
        rw [h23, K2] at h
        have f22 := K5 (e := Jh) h23
        cases h
        refine ⟨?_, by first | exact ⟨_, rfl⟩ | exact ⟨_, by assumption⟩⟩
        refine Zr (lf := lf44) rfl rfl rfl ?_
        simp only [lf44, lc44]
        simp (maxSteps := 4000000) [-Qq, e000, f1, e7, f9, f6, Yd (e := Jz) (el := 40) (fz := false), f10, f13, f14, Yd (e := Jh) (el := 27) (fz := false), e19, f21, f18, f22]
    · rw [if_neg h15] at h; cases h

/-! toolpath.builder).group -/
attribute [simp] c25_0 c25_1 c25_2 c25_3 c25_4 c25_5
theorem c25_L0_u (Γ : Env) (ps : List Nat) (σ : St) : EC Γ ps 0 Jhg σ = EC Γ ps 0 (.seq (.reg false c25_2) (.seq (.cond (.t 18) .skip (.seq (.trim []) (.exit 0))) (.seq (.blk 1 (.seq (.reg false c25_3) (.reg false c25_4))) (.reg false c25_5)))) σ := rfl
attribute [simp ↓] c25_L0_u
def Qy (k0 : (FS Jc)) (k1 : Int) (s : (Jd × Int)) : Option (LR (Jd × Int) Jd) := match s with
 | (s0, s1) => (if (ilt s1 k1) = true then (match fget k0 s1 with
 | none => none
 | some v10 => (match Q7 (⟨(⟨s0.list.ops⟩ : Jp), s0.r, s0.s, s0.nozzle⟩ : Jd) v10 with
 | none => none
 | some v12 => some (.nx ((⟨(⟨v12.list.ops⟩ : Jp), v12.r, v12.s, v12.nozzle⟩ : Jd), (iadd .i64 s1 1)))))
 else some (.dn (⟨(⟨s0.list.ops⟩ : Jp), s0.r, s0.s, s0.nozzle⟩ : Jd)))
def Kc (k0 : (FS Jc)) (k1 : Int) (s : (Jd × Int)) : St := match s with
 | (s0, s1) => (Jab s0.list.ops (⟨fr [(0, .ptr 0 0 0), (15, encF Jg k0), (16, .int .i64 k1), (17, .int .i64 s1)], hl [(0, .box 0 [.nils, encF Jl s0.r.Rows, .int .i64 s0.s.Pitch, .int .i64 s0.s.Height, .int .i64 s0.s.Walls, .int .i64 s0.s.Top, .int .i64 s0.s.Bottom, .int .i64 s0.s.Pattern, .int .i64 s0.s.Spacing, .bool s0.s.Support, .int .i64 s0.s.Reach, .int .i64 s0.s.Gap, .int .i64 s0.s.Brim, .int .i64 s0.s.Skirt, .int .i64 s0.s.Drop, .int .i64 s0.s.Feed, .int .i64 s0.s.Travel, .int .i64 s0.s.Retract, .int .i64 s0.s.MinTime, .int .i64 s0.s.MinFeed, .int .i64 s0.s.Nozzle, .int .i64 s0.s.Bed, .int .i64 s0.nozzle.X, .int .i64 s0.nozzle.Y])]⟩)
  (fun l0 => ⟨fr [(0, .ptr 0 0 0), (15, encF Jg k0), (16, .int .i64 k1), (17, .int .i64 s1)], hl [(0, .box 0 [.arr 1000000 0 0 l0.l.length, encF Jl s0.r.Rows, .int .i64 s0.s.Pitch, .int .i64 s0.s.Height, .int .i64 s0.s.Walls, .int .i64 s0.s.Top, .int .i64 s0.s.Bottom, .int .i64 s0.s.Pattern, .int .i64 s0.s.Spacing, .bool s0.s.Support, .int .i64 s0.s.Reach, .int .i64 s0.s.Gap, .int .i64 s0.s.Brim, .int .i64 s0.s.Skirt, .int .i64 s0.s.Drop, .int .i64 s0.s.Feed, .int .i64 s0.s.Travel, .int .i64 s0.s.Retract, .int .i64 s0.s.MinTime, .int .i64 s0.s.MinFeed, .int .i64 s0.s.Nozzle, .int .i64 s0.s.Bed, .int .i64 s0.nozzle.X, .int .i64 s0.nozzle.Y]), (1000000, .arr 0 6 40 (Jn Jz l0.l) false)]⟩))
def Qd (k0 : (FS Jc)) (k1 : Int) (x : Jd) : LE × St := (Jab x.list.ops (.exit 0, ⟨fr [], hl [(0, .box 0 [.nils, encF Jl x.r.Rows, .int .i64 x.s.Pitch, .int .i64 x.s.Height, .int .i64 x.s.Walls, .int .i64 x.s.Top, .int .i64 x.s.Bottom, .int .i64 x.s.Pattern, .int .i64 x.s.Spacing, .bool x.s.Support, .int .i64 x.s.Reach, .int .i64 x.s.Gap, .int .i64 x.s.Brim, .int .i64 x.s.Skirt, .int .i64 x.s.Drop, .int .i64 x.s.Feed, .int .i64 x.s.Travel, .int .i64 x.s.Retract, .int .i64 x.s.MinTime, .int .i64 x.s.MinFeed, .int .i64 x.s.Nozzle, .int .i64 x.s.Bed, .int .i64 x.nozzle.X, .int .i64 x.nozzle.Y])]⟩)
  (fun l0 => (.exit 0, ⟨fr [], hl [(0, .box 0 [.arr 1000000 0 0 l0.l.length, encF Jl x.r.Rows, .int .i64 x.s.Pitch, .int .i64 x.s.Height, .int .i64 x.s.Walls, .int .i64 x.s.Top, .int .i64 x.s.Bottom, .int .i64 x.s.Pattern, .int .i64 x.s.Spacing, .bool x.s.Support, .int .i64 x.s.Reach, .int .i64 x.s.Gap, .int .i64 x.s.Brim, .int .i64 x.s.Skirt, .int .i64 x.s.Drop, .int .i64 x.s.Feed, .int .i64 x.s.Travel, .int .i64 x.s.Retract, .int .i64 x.s.MinTime, .int .i64 x.s.MinFeed, .int .i64 x.s.Nozzle, .int .i64 x.s.Bed, .int .i64 x.nozzle.X, .int .i64 x.nozzle.Y]), (1000000, .arr 0 6 40 (Jn Jz l0.l) false)]⟩)))
theorem Jai {k0 : (FS Jc)} {k1 : Int} {s : (Jd × Int)} {r : Jd} (h : Ku (Qy k0 k1) bigN s = some r) : LK env [0] 0 [0, 15, 16, 17] Jhg (some (Kc k0 k1 s)) = some (Qd k0 k1 r) ∧ (Lst s.1.list.ops → Lst r.list.ops) := Jip (P := fun s => Lst s.1.list.ops) (Q := fun r => Lst r.list.ops) (st := Kc k0 k1) (out := Qd k0 k1) (by
 clear h s r
 rintro ⟨s0, s1⟩ x h
 simp only [Qy] at h
 cases e8 : s0.list.ops with
 | nil =>
  try simp only [e8, J3] at h
  by_cases c9 : (ilt s1 k1) = true
  · rw [if_pos c9] at h
    cases h11 : fget k0 s1 with
    | none => (rw [h11] at h; cases h)
    | some v12 =>
     simp only [h11] at h
     have f10 := K5 (e := Jg) h11
     cases h13 : Q7 (⟨(⟨(FS.nil : (FS Jr))⟩ : Jp), s0.r, s0.s, s0.nozzle⟩ : Jd) v12 with
     | none => (rw [h13] at h; cases h)
     | some v14 =>
      simp only [h13] at h
      obtain ⟨f15, ⟨l17, e16⟩⟩ := Jcj rfl h13
      simp only [e16] at f15
      try simp only [e16] at h
      try simp only [J8, Xs, Jj, Ji, Jm, Jw, Jt, Ju, Jv, Js] at f15
      try simp only [Jj, Ji, Jm, Jw, Jt, Ju, Jv, Js] at f15
      have f18 : ∀ H : Heap, H 0 = some (.box 0 [.nils, encF Jl s0.r.Rows, .int .i64 s0.s.Pitch, .int .i64 s0.s.Height, .int .i64 s0.s.Walls, .int .i64 s0.s.Top, .int .i64 s0.s.Bottom, .int .i64 s0.s.Pattern, .int .i64 s0.s.Spacing, .bool s0.s.Support, .int .i64 s0.s.Reach, .int .i64 s0.s.Gap, .int .i64 s0.s.Brim, .int .i64 s0.s.Skirt, .int .i64 s0.s.Drop, .int .i64 s0.s.Feed, .int .i64 s0.s.Travel, .int .i64 s0.s.Retract, .int .i64 s0.s.MinTime, .int .i64 s0.s.MinFeed, .int .i64 s0.s.Nozzle, .int .i64 s0.s.Bed, .int .i64 s0.nozzle.X, .int .i64 s0.nozzle.Y]) → H 1000000 = none → jt (FC env) 44 H [.ptr 0 0 0, .agg [.int .i64 v12.Role, .bool v12.Closed, encF Jh v12.Cells]] = some (.tup [], upd (upd H 1000000 (some (.arr 0 6 40 (Jn Jz (FS.lst l17).l) false))) 0 (some (.box 0 [.arr 1000000 0 0 (FS.lst l17).l.length, encF Jl v14.r.Rows, .int .i64 v14.s.Pitch, .int .i64 v14.s.Height, .int .i64 v14.s.Walls, .int .i64 v14.s.Top, .int .i64 v14.s.Bottom, .int .i64 v14.s.Pattern, .int .i64 v14.s.Spacing, .bool v14.s.Support, .int .i64 v14.s.Reach, .int .i64 v14.s.Gap, .int .i64 v14.s.Brim, .int .i64 v14.s.Skirt, .int .i64 v14.s.Drop, .int .i64 v14.s.Feed, .int .i64 v14.s.Travel, .int .i64 v14.s.Retract, .int .i64 v14.s.MinTime, .int .i64 v14.s.MinFeed, .int .i64 v14.s.Nozzle, .int .i64 v14.s.Bed, .int .i64 v14.nozzle.X, .int .i64 v14.nozzle.Y]))) := by
        intro H q0 q1
        simp (maxSteps := 4000000) [q0, q1, f15]
      cases h
      refine ⟨?_, fun k => ?_⟩
      · show LK env [0] 0 [0, 15, 16, 17] Jhg (some (Kc _ _ _)) = LK env [0] 0 [0, 15, 16, 17] Jhg (some (Kc _ _ _))
        simp only [Kc, e8]
        rw [J4]
        try simp only [c9] at f15
        simp (maxSteps := 4000000) [-Qq, c9, e8, f10, e16, f18, f15]
      · obtain ⟨_, k⟩ := k
        first | exact (Jio k).elim | exact (Jio (e8.symm.trans k)).elim
  · rw [if_neg c9] at h
    rw [Bool.not_eq_true] at c9
    cases h
    refine ⟨?_, fun k => ?_⟩
    · show LK env [0] 0 [0, 15, 16, 17] Jhg (some (Kc _ _ _)) = some (Qd _ _ _)
      simp only [Kc, Qd, e8]
      rw [J4]
      simp (maxSteps := 4000000) [c9, e8]
    · obtain ⟨_, k⟩ := k
      first | exact (Jio k).elim | exact (Jio (e8.symm.trans k)).elim
 | lst l7 =>
  try simp only [e8] at h
  by_cases c19 : (ilt s1 k1) = true
  · rw [if_pos c19] at h
    cases h21 : fget k0 s1 with
    | none => (rw [h21] at h; cases h)
    | some v22 =>
     simp only [h21] at h
     have f20 := K5 (e := Jg) h21
     cases h23 : Q7 (⟨(⟨(FS.lst l7)⟩ : Jp), s0.r, s0.s, s0.nozzle⟩ : Jd) v22 with
     | none => (rw [h23] at h; cases h)
     | some v24 =>
      simp only [h23] at h
      obtain ⟨f25, ⟨l27, e26⟩⟩ := Jci rfl h23
      simp only [e26] at f25
      try simp only [e26] at h
      try simp only [J8, Xs, Jj, Ji, Jm, Jw, Jt, Ju, Jv, Js] at f25
      try simp only [Jj, Ji, Jm, Jw, Jt, Ju, Jv, Js] at f25
      have f28 : ∀ H : Heap, H 0 = some (.box 0 [.arr 1000000 0 0 (FS.lst l7).l.length, encF Jl s0.r.Rows, .int .i64 s0.s.Pitch, .int .i64 s0.s.Height, .int .i64 s0.s.Walls, .int .i64 s0.s.Top, .int .i64 s0.s.Bottom, .int .i64 s0.s.Pattern, .int .i64 s0.s.Spacing, .bool s0.s.Support, .int .i64 s0.s.Reach, .int .i64 s0.s.Gap, .int .i64 s0.s.Brim, .int .i64 s0.s.Skirt, .int .i64 s0.s.Drop, .int .i64 s0.s.Feed, .int .i64 s0.s.Travel, .int .i64 s0.s.Retract, .int .i64 s0.s.MinTime, .int .i64 s0.s.MinFeed, .int .i64 s0.s.Nozzle, .int .i64 s0.s.Bed, .int .i64 s0.nozzle.X, .int .i64 s0.nozzle.Y]) → H 1000000 = some (.arr 0 6 40 (Jn Jz (FS.lst l7).l) false) → jt (FC env) 44 H [.ptr 0 0 0, .agg [.int .i64 v22.Role, .bool v22.Closed, encF Jh v22.Cells]] = some (.tup [], upd (upd H 1000000 (some (.arr 1 6 40 (Jn Jz (FS.lst l27).l) false))) 0 (some (.box 0 [.arr 1000000 1 0 (FS.lst l27).l.length, encF Jl v24.r.Rows, .int .i64 v24.s.Pitch, .int .i64 v24.s.Height, .int .i64 v24.s.Walls, .int .i64 v24.s.Top, .int .i64 v24.s.Bottom, .int .i64 v24.s.Pattern, .int .i64 v24.s.Spacing, .bool v24.s.Support, .int .i64 v24.s.Reach, .int .i64 v24.s.Gap, .int .i64 v24.s.Brim, .int .i64 v24.s.Skirt, .int .i64 v24.s.Drop, .int .i64 v24.s.Feed, .int .i64 v24.s.Travel, .int .i64 v24.s.Retract, .int .i64 v24.s.MinTime, .int .i64 v24.s.MinFeed, .int .i64 v24.s.Nozzle, .int .i64 v24.s.Bed, .int .i64 v24.nozzle.X, .int .i64 v24.nozzle.Y]))) := by
        intro H q0 q1
        simp (maxSteps := 4000000) [q0, q1, f25]
      cases h
      refine ⟨?_, fun k => ?_⟩
      · show LK env [0] 0 [0, 15, 16, 17] Jhg (some (Kc _ _ _)) = LK env [0] 0 [0, 15, 16, 17] Jhg (some (Kc _ _ _))
        simp only [Kc, e8]
        rw [J4]
        try simp only [c19] at f25
        simp (maxSteps := 4000000) [-Qq, c19, e8, f20, e26, f28, f25]
      · first | exact ⟨_, rfl⟩ | exact ⟨_, by assumption⟩
  · rw [if_neg c19] at h
    rw [Bool.not_eq_true] at c19
    cases h
    refine ⟨?_, fun k => ?_⟩
    · show LK env [0] 0 [0, 15, 16, 17] Jhg (some (Kc _ _ _)) = some (Qd _ _ _)
      simp only [Kc, Qd, e8]
      rw [J4]
      simp (maxSteps := 4000000) [c19, e8]
    · first | exact ⟨_, rfl⟩ | exact ⟨_, by assumption⟩) bigN s r h
def Q8 (p0 : Jd) (p1 : (FS Jc)) : Option Jd := (match z2 p0.nozzle p1 with
 | none => none
 | some v3 => (match ju p0.nozzle v3 8 with
 | none => none
 | some v6 => (match Ku (Qy v6 (flen v6)) bigN ((⟨(⟨p0.list.ops⟩ : Jp), p0.r, p0.s, p0.nozzle⟩ : Jd), 0) with
 | none => none
 | some v15 => some (⟨(⟨v15.list.ops⟩ : Jp), v15.r, v15.s, v15.nozzle⟩ : Jd))))
theorem Jcl {p0 : Jd} {p1 : (FS Jc)} (e000 : p0.list.ops = FS.nil) {r : Jd} (h : Q8 p0 p1 = some r) : FC env 25 [.ptr 0 0 0, encF Jg p1] (some (hl [(0, .box 0 [.nils, encF Jl p0.r.Rows, .int .i64 p0.s.Pitch, .int .i64 p0.s.Height, .int .i64 p0.s.Walls, .int .i64 p0.s.Top, .int .i64 p0.s.Bottom, .int .i64 p0.s.Pattern, .int .i64 p0.s.Spacing, .bool p0.s.Support, .int .i64 p0.s.Reach, .int .i64 p0.s.Gap, .int .i64 p0.s.Brim, .int .i64 p0.s.Skirt, .int .i64 p0.s.Drop, .int .i64 p0.s.Feed, .int .i64 p0.s.Travel, .int .i64 p0.s.Retract, .int .i64 p0.s.MinTime, .int .i64 p0.s.MinFeed, .int .i64 p0.s.Nozzle, .int .i64 p0.s.Bed, .int .i64 p0.nozzle.X, .int .i64 p0.nozzle.Y])], 0)) = some (.tup [], (Jab r.list.ops (hl [(0, .box 0 [.nils, encF Jl r.r.Rows, .int .i64 r.s.Pitch, .int .i64 r.s.Height, .int .i64 r.s.Walls, .int .i64 r.s.Top, .int .i64 r.s.Bottom, .int .i64 r.s.Pattern, .int .i64 r.s.Spacing, .bool r.s.Support, .int .i64 r.s.Reach, .int .i64 r.s.Gap, .int .i64 r.s.Brim, .int .i64 r.s.Skirt, .int .i64 r.s.Drop, .int .i64 r.s.Feed, .int .i64 r.s.Travel, .int .i64 r.s.Retract, .int .i64 r.s.MinTime, .int .i64 r.s.MinFeed, .int .i64 r.s.Nozzle, .int .i64 r.s.Bed, .int .i64 r.nozzle.X, .int .i64 r.nozzle.Y])])
  (fun l0 => hl [(0, .box 0 [.arr 1000000 0 0 l0.l.length, encF Jl r.r.Rows, .int .i64 r.s.Pitch, .int .i64 r.s.Height, .int .i64 r.s.Walls, .int .i64 r.s.Top, .int .i64 r.s.Bottom, .int .i64 r.s.Pattern, .int .i64 r.s.Spacing, .bool r.s.Support, .int .i64 r.s.Reach, .int .i64 r.s.Gap, .int .i64 r.s.Brim, .int .i64 r.s.Skirt, .int .i64 r.s.Drop, .int .i64 r.s.Feed, .int .i64 r.s.Travel, .int .i64 r.s.Retract, .int .i64 r.s.MinTime, .int .i64 r.s.MinFeed, .int .i64 r.s.Nozzle, .int .i64 r.s.Bed, .int .i64 r.nozzle.X, .int .i64 r.nozzle.Y]), (1000000, .arr 0 6 40 (Jn Jz l0.l) false)]))) := by
 unfold Q8 at h
 simp only [e000, J3] at h
 cases h2 : z2 p0.nozzle p1 with
 | none => (rw [h2] at h; cases h)
 | some v3 =>
  simp only [h2] at h
  have f1 := Jed h2
  cases h5 : ju p0.nozzle v3 8 with
  | none => (rw [h5] at h; cases h)
  | some v6 =>
   simp only [h5] at h
   have f4 := Jdi h5
   cases h29 : Ku (Qy v6 (flen v6)) bigN ((⟨(⟨(FS.nil : (FS Jr))⟩ : Jp), p0.r, p0.s, p0.nozzle⟩ : Jd), 0) with
   | none => (rw [h29] at h; cases h)
   | some v30 =>
    simp only [h29] at h
    obtain ⟨f31, f31k⟩ := Jai h29
    simp only [Kc, Qd, J8] at f31
    cases e34 : v30.list.ops with
    | nil =>
     try simp only [e34, J3] at h
     simp only [e34, J3, Jj, Ji] at f31
     cases h
     refine Zr (lf := lf25) rfl rfl rfl ?_
     simp only [lf25, lc25]
     simp (maxSteps := 4000000) [e000, f1, f4, f31, e34]
    | lst l33 =>
     try simp only [e34] at h
     simp only [e34, J3, Jj, Ji] at f31
     cases h
     refine Zr (lf := lf25) rfl rfl rfl ?_
     simp only [lf25, lc25]
     simp (maxSteps := 4000000) [e000, f1, f4, f31, e34]
theorem Jco {p0 : Jd} {p1 : (FS Jc)} {le000 : List Jr} (e000 : p0.list.ops = FS.lst le000) {r : Jd} (h : Q8 p0 p1 = some r) : FC env 25 [.ptr 0 0 0, encF Jg p1] (some (hl [(0, .box 0 [.arr 1000000 0 0 p0.list.ops.l.length, encF Jl p0.r.Rows, .int .i64 p0.s.Pitch, .int .i64 p0.s.Height, .int .i64 p0.s.Walls, .int .i64 p0.s.Top, .int .i64 p0.s.Bottom, .int .i64 p0.s.Pattern, .int .i64 p0.s.Spacing, .bool p0.s.Support, .int .i64 p0.s.Reach, .int .i64 p0.s.Gap, .int .i64 p0.s.Brim, .int .i64 p0.s.Skirt, .int .i64 p0.s.Drop, .int .i64 p0.s.Feed, .int .i64 p0.s.Travel, .int .i64 p0.s.Retract, .int .i64 p0.s.MinTime, .int .i64 p0.s.MinFeed, .int .i64 p0.s.Nozzle, .int .i64 p0.s.Bed, .int .i64 p0.nozzle.X, .int .i64 p0.nozzle.Y]), (1000000, .arr 0 6 40 (Jn Jz p0.list.ops.l) false)], 0)) = some (.tup [], hl [(0, .box 0 [.arr 1000000 0 0 r.list.ops.l.length, encF Jl r.r.Rows, .int .i64 r.s.Pitch, .int .i64 r.s.Height, .int .i64 r.s.Walls, .int .i64 r.s.Top, .int .i64 r.s.Bottom, .int .i64 r.s.Pattern, .int .i64 r.s.Spacing, .bool r.s.Support, .int .i64 r.s.Reach, .int .i64 r.s.Gap, .int .i64 r.s.Brim, .int .i64 r.s.Skirt, .int .i64 r.s.Drop, .int .i64 r.s.Feed, .int .i64 r.s.Travel, .int .i64 r.s.Retract, .int .i64 r.s.MinTime, .int .i64 r.s.MinFeed, .int .i64 r.s.Nozzle, .int .i64 r.s.Bed, .int .i64 r.nozzle.X, .int .i64 r.nozzle.Y]), (1000000, .arr 0 6 40 (Jn Jz r.list.ops.l) false)]) ∧ ∃ l, r.list.ops = FS.lst l := by
 unfold Q8 at h
 simp only [e000, J3] at h
 cases h2 : z2 p0.nozzle p1 with
 | none => (rw [h2] at h; cases h)
 | some v3 =>
  simp only [h2] at h
  have f1 := Jed h2
  cases h5 : ju p0.nozzle v3 8 with
  | none => (rw [h5] at h; cases h)
  | some v6 =>
   simp only [h5] at h
   have f4 := Jdi h5
   cases h7 : Ku (Qy v6 (flen v6)) bigN ((⟨(⟨(FS.lst le000)⟩ : Jp), p0.r, p0.s, p0.nozzle⟩ : Jd), 0) with
   | none => (rw [h7] at h; cases h)
   | some v8 =>
    simp only [h7] at h
    obtain ⟨f9, f9k⟩ := Jai h7
    simp only [Kc, Qd, J8] at f9
    cases e12 : v8.list.ops with
    | nil =>
     obtain ⟨_, k⟩ := f9k ⟨_, rfl⟩
     exact (Jio (e12.symm.trans k)).elim
    | lst l11 =>
     try simp only [e12] at h
     simp only [e12, J3, Jj, Ji] at f9
     cases h
     refine ⟨?_, by first | exact ⟨_, rfl⟩ | exact ⟨_, by assumption⟩⟩
     refine Zr (lf := lf25) rfl rfl rfl ?_
     simp only [lf25, lc25]
     simp (maxSteps := 4000000) [e000, f1, f4, f9, e12]

/-! slices.Clone_api_Op_api_Op -/
attribute [simp] c68_0 c68_1 c68_2 c68_3
def Qt (p0 : (FS Jr)) : Option (FS Jr) := (match Jkr p0 with
 | none => none
 | some v3 => (if v3 = true then some (FS.nil : (FS Jr))
 else (if fits 64 ((flen (flit ([] : List Jr))) + (flen p0)) = true then some (fapp (flit ([] : List Jr)) p0) else none)))
theorem Jaf {p0 : (FS Jr)} {r : (FS Jr)} (h : Qt p0 = some r) : FC env 68 [encF Jz p0] (some (hl [], 0)) = (Jab r (some (.nils, hl []))
  (fun l0 => (some (.arr 700000 0 0 l0.l.length, hl [(700000, .arr 0 6 40 (Jn Jz l0.l) false)])))) := by
 unfold Qt at h
 cases h2 : Jkr p0 with
 | none => (rw [h2] at h; cases h)
 | some v3 =>
  simp only [h2] at h
  have f1 := Jzc (e := Jz) h2
  by_cases c4 : v3 = true
  · rw [if_pos c4] at h
    cases h
    refine Zr (lf := lf68) rfl rfl rfl ?_
    simp only [lf68, lc68]
    simp (maxSteps := 4000000) [c4, f1]
    all_goals first | rfl | exact ⟨rfl, rfl⟩
  · rw [if_neg c4] at h
    rw [Bool.not_eq_true] at c4
    have f5 : ∀ (H : Heap) (g0 : Nat), bslV H g0 0 6 40 (some []) = some (.arr g0 (K7 H g0) 0 (flit ([] : List Jr)).l.length, upd H g0 (some (.arr (K7 H g0) 6 40 (Jn Jz (flit ([] : List Jr)).l) false))) := fun H g0 => rfl
    by_cases h7 : fits 64 ((flen (flit ([] : List Jr))) + (flen p0)) = true
    · rw [if_pos h7] at h
      have f6 := fun g0 H => @Jb4 _ _ Jz _ (flit ([] : List Jr)) p0 64 h7 (by decide) g0 H 5 0 40
      cases h
      refine Zr (lf := lf68) rfl rfl rfl ?_
      simp only [lf68, lc68]
      simp (maxSteps := 4000000) [c4, f1, f5, f6]
      all_goals first | rfl | exact ⟨rfl, rfl⟩
    · rw [if_neg h7] at h; cases h

/-! slices.Clone_api_Cell_api_Cell -/
attribute [simp] c69_0 c69_1 c69_2 c69_3
def Xe (p0 : (FS Ja)) : Option (FS Ja) := (match Jkr p0 with
 | none => none
 | some v3 => (if v3 = true then some (FS.nil : (FS Ja))
 else (if fits 16 ((flen (flit ([] : List Ja))) + (flen p0)) = true then some (fapp (flit ([] : List Ja)) p0) else none)))
theorem Jbe {p0 : (FS Ja)} {r : (FS Ja)} (h : Xe p0 = some r) : FC env 69 [encF Jh p0] none = some (encF Jh r, fun _ => none) := by
 unfold Xe at h
 cases h2 : Jkr p0 with
 | none => (rw [h2] at h; cases h)
 | some v3 =>
  simp only [h2] at h
  have f1 := Jzc (e := Jh) h2
  by_cases c4 : v3 = true
  · rw [if_pos c4] at h
    cases h
    refine J9 (lf := lf69) rfl rfl rfl ?_
    simp only [lf69, lc69]
    simp (maxSteps := 4000000) [c4, f1]
  · rw [if_neg c4] at h
    rw [Bool.not_eq_true] at c4
    have f5 : ∀ (H : Heap) (g0 : Nat), bslV H g0 0 2 27 (some []) = some (.arr g0 (K7 H g0) 0 (flit ([] : List Ja)).l.length, upd H g0 (some (.arr (K7 H g0) 2 27 (Jn Jh (flit ([] : List Ja)).l) false))) := fun H g0 => rfl
    by_cases h7 : fits 16 ((flen (flit ([] : List Ja))) + (flen p0)) = true
    · rw [if_pos h7] at h
      have f6 := fun g0 H => @Jb4 _ _ Jh _ (flit ([] : List Ja)) p0 16 h7 (by decide) g0 H 5 0 27
      cases h
      refine J9 (lf := lf69) rfl rfl rfl ?_
      simp only [lf69, lc69]
      simp (maxSteps := 4000000) [c4, f1, f5, f6, Yd (e := Jh) (el := 27) (fz := false)]
    · rw [if_neg h7] at h; cases h

/-! cool.copied -/
attribute [simp] c45_0 c45_1 c45_2 c45_3 c45_4 c45_5 c45_6 c45_8
theorem c45_L0_u (Γ : Env) (ps : List Nat) (σ : St) : EC Γ ps 0 Jju σ = EC Γ ps 0 (.seq (.reg false c45_3) (.seq (.cond (.t 10) .skip (.seq (.trim [3]) (.exit 0))) (.seq (.blk 1 (.seq (.reg false c45_4) (.reg false c45_5))) (.reg false c45_6)))) σ := rfl
attribute [simp ↓] c45_L0_u
def jg (k0 : Int) (s : ((FS Jr) × Int)) : Option (LR ((FS Jr) × Int) (FS Jr)) := match s with
 | (s0, s1) => (if (ilt s1 k0) = true then (match fget s0 s1 with
 | none => none
 | some v7 => (match Xe v7.Cells with
 | none => none
 | some v11 => some (.nx ((fset s0 s1 (⟨v7.Kind, v7.Role, v7.Layer, v7.Z, v7.Speed, v11⟩ : Jr)), (iadd .i64 s1 1)))))
 else some (.dn s0))
def Xm (k0 : Int) (s : ((FS Jr) × Int)) : St := match s with
 | (s0, s1) => (Jab s0 (⟨fr [(3, .nils), (8, .int .i64 k0), (9, .int .i64 s1)], hl []⟩)
  (fun l0 => ⟨fr [(3, .arr 3 0 0 l0.l.length), (8, .int .i64 k0), (9, .int .i64 s1)], hl [(3, .arr 0 6 40 (Jn Jz l0.l) false)]⟩))
def Yx (k0 : Int) (x : (FS Jr)) : LE × St := (Jab x (.exit 0, ⟨fr [(3, .nils)], hl []⟩)
  (fun l0 => (.exit 0, ⟨fr [(3, .arr 3 0 0 l0.l.length)], hl [(3, .arr 0 6 40 (Jn Jz l0.l) false)]⟩)))
theorem Jcq {k0 : Int} {s : ((FS Jr) × Int)} {r : (FS Jr)} (h : Ku (jg k0) bigN s = some r) : LK env [] 0 [3, 8, 9] Jju (some (Xm k0 s)) = some (Yx k0 r) := Q3 (st := Xm k0) (out := Yx k0) (by
 clear h s r
 rintro ⟨s0, s1⟩ x h
 simp only [jg] at h
 cases e8 : s0 with
 | nil =>
  try simp only [e8, J3] at h
  by_cases c9 : (ilt s1 k0) = true
  · rw [if_pos c9] at h
    exact absurd h (by simp [Jbj])
  · rw [if_neg c9] at h
    rw [Bool.not_eq_true] at c9
    cases h
    show LK env [] 0 [3, 8, 9] Jju (some (Xm _ _)) = some (Yx _ _)
    simp only [Xm, Yx, e8]
    rw [J4]
    simp (maxSteps := 4000000) [c9, e8]
 | lst l7 =>
  try simp only [e8] at h
  by_cases c10 : (ilt s1 k0) = true
  · rw [if_pos c10] at h
    cases h13 : fget (FS.lst l7) s1 with
    | none => (rw [h13] at h; cases h)
    | some v14 =>
     simp only [h13] at h
     have f11 := Y3 (w := 6) h13
     have f12 := h13
     have f15 := (Jjm (e := Jz) f12 false 5 1 (by decide) (by decide))
     simp only [Jz] at f15
     cases h17 : Xe v14.Cells with
     | none => (rw [h17] at h; cases h)
     | some v18 =>
      simp only [h17] at h
      have f16 := Jbe h17
      have f21 := @Jok _ _ Jz _ (FS.lst l7) s1 v14 (⟨v14.Kind, v14.Role, v14.Layer, v14.Z, v14.Speed, v18⟩ : Jr) f12 5 [encF Jh v18] (by simp) (by simp [Jz])
      have f22 := in_row (w := 6) f12 5 1 (by decide)
      try simp at f22
      cases h
      show LK env [] 0 [3, 8, 9] Jju (some (Xm _ _)) = LK env [] 0 [3, 8, 9] Jju (some (Xm _ _))
      simp only [Xm, e8]
      rw [J4]
      simp (maxSteps := 4000000) [c10, e8, f11, f15, f16, f21, f22]
  · rw [if_neg c10] at h
    rw [Bool.not_eq_true] at c10
    cases h
    show LK env [] 0 [3, 8, 9] Jju (some (Xm _ _)) = some (Yx _ _)
    simp only [Xm, Yx, e8]
    rw [J4]
    simp (maxSteps := 4000000) [c10, e8]) bigN s r h
def Ja5 (p0 : (FS Jr)) : Option (FS Jr) := (match Qt p0 with
 | none => none
 | some v2 => (match Ku (jg (flen v2)) bigN (v2, 0) with
 | none => none
 | some v16 => some v16))
theorem Jja {p0 : (FS Jr)} {r : (FS Jr)} (h : Ja5 p0 = some r) : FC env 45 [encF Jz p0] none = some (encF Jz r, fun _ => none) := by
 unfold Ja5 at h
 cases h1 : Qt p0 with
 | none => (rw [h1] at h; cases h)
 | some v2 =>
  simp only [h1] at h
  have f3 := Jaf h1
  cases e5 : v2 with
  | nil =>
   try simp only [e5, J3] at h
   simp only [e5, J3, Jj, Ji] at f3
   have f6 : ∀ H : Heap, jt (FC env) 68 H [encF Jz p0] = some (.nils, H) := by
     intro H 
     simp (maxSteps := 4000000) [f3, e5]
   cases h23 : Ku (jg 0) bigN ((FS.nil : (FS Jr)), 0) with
   | none => (rw [h23] at h; cases h)
   | some v24 =>
    simp only [h23] at h
    have f25 := Jcq h23
    simp only [Xm, Yx, J8] at f25
    cases e28 : v24 with
    | nil =>
     try simp only [e28, J3] at h
     simp only [e28, J3, Jj, Ji] at f25
     cases h
     refine J9 (lf := lf45) rfl rfl rfl ?_
     simp only [lf45, lc45]
     simp (maxSteps := 4000000) [-Qq, e5, f6, f3, f25, e28]
    | lst l27 =>
     try simp only [e28] at h
     simp only [e28, J3, Jj, Ji] at f25
     cases h
     refine J9 (lf := lf45) rfl rfl rfl ?_
     simp only [lf45, lc45]
     simp (maxSteps := 4000000) [-Qq, e5, f6, f3, f25, e28, Yd (e := Jz) (el := 40) (fz := false)]
  | lst l4 =>
   try simp only [e5] at h
   simp only [e5, J3, Jj, Ji] at f3
   have f29 : ∀ H : Heap, H 701068000 = none → jt (FC env) 68 H [encF Jz p0] = some (.arr 701068000 0 0 (FS.lst l4).l.length, upd H 701068000 (some (.arr 0 6 40 (Jn Jz (FS.lst l4).l) false))) := by
     intro H q0
     simp (maxSteps := 4000000) [q0, f3, e5]
   cases h30 : Ku (jg (flen (FS.lst l4))) bigN ((FS.lst l4), 0) with
   | none => (rw [h30] at h; cases h)
   | some v31 =>
    simp only [h30] at h
    have f32 := Jcq h30
    simp only [Xm, Yx, J8] at f32
    cases e35 : v31 with
    | nil =>
     try simp only [e35, J3] at h
     simp only [e35, J3, Jj, Ji] at f32
     cases h
     refine J9 (lf := lf45) rfl rfl rfl ?_
     simp only [lf45, lc45]
     simp (maxSteps := 4000000) [-Qq, e5, f29, f3, f32, e35]
    | lst l34 =>
     try simp only [e35] at h
     simp only [e35, J3, Jj, Ji] at f32
     cases h
     refine J9 (lf := lf45) rfl rfl rfl ?_
     simp only [lf45, lc45]
     simp (maxSteps := 4000000) [-Qq, e5, f29, f3, f32, e35, Yd (e := Jz) (el := 40) (fz := false)]

/-! cool.limited -/
attribute [simp] c48_0 c48_1 c48_2 c48_3 c48_4 c48_5 c48_6 c48_7 c48_9
theorem c48_L0_u (Γ : Env) (ps : List Nat) (σ : St) : EC Γ ps 0 Jhq σ = EC Γ ps 0 (.seq (.reg false c48_3) (.seq (.cond (.t 13) .skip (.seq (.trim [5]) (.exit 0))) (.seq (.blk 1 (.seq (.reg false c48_4) (.seq (.reg false c48_5) (.cond (.t 19) (.reg false c48_6) .skip)))) (.reg false c48_7)))) σ := rfl
attribute [simp ↓] c48_L0_u
def Ze (k0 : Int) (k1 : Int) (s : ((FS Jr) × Int)) : Option (LR ((FS Jr) × Int) (FS Jr)) := match s with
 | (s0, s1) => (if (ilt s1 k1) = true then (match fget s0 s1 with
 | none => none
 | some v7 => (if (ieq v7.Kind 3) = true then some (.nx ((fset s0 s1 (⟨v7.Kind, v7.Role, v7.Layer, v7.Z, (imin v7.Speed k0), v7.Cells⟩ : Jr)), (iadd .i64 s1 1)))
 else some (.nx (s0, (iadd .i64 s1 1)))))
 else some (.dn s0))
def Qb (k0 : Int) (k1 : Int) (s : ((FS Jr) × Int)) : St := match s with
 | (s0, s1) => (Jab s0 (⟨fr [(1, .int .i64 k0), (5, .nils), (10, .nils), (11, .int .i64 k1), (12, .int .i64 s1)], hl []⟩)
  (fun l0 => ⟨fr [(1, .int .i64 k0), (5, .arr 5 0 0 l0.l.length), (10, .arr 5 0 0 l0.l.length), (11, .int .i64 k1), (12, .int .i64 s1)], hl [(5, .arr 0 6 40 (Jn Jz l0.l) false)]⟩))
def Yi (k0 : Int) (k1 : Int) (x : (FS Jr)) : LE × St := (Jab x (.exit 0, ⟨fr [(5, .nils)], hl []⟩)
  (fun l0 => (.exit 0, ⟨fr [(5, .arr 5 0 0 l0.l.length)], hl [(5, .arr 0 6 40 (Jn Jz l0.l) false)]⟩)))
theorem Jch {k0 : Int} {k1 : Int} {s : ((FS Jr) × Int)} {r : (FS Jr)} (h : Ku (Ze k0 k1) bigN s = some r) : LK env [] 0 [1, 5, 10, 11, 12] Jhq (some (Qb k0 k1 s)) = some (Yi k0 k1 r) := Q3 (st := Qb k0 k1) (out := Yi k0 k1) (by
 clear h s r
 rintro ⟨s0, s1⟩ x h
 simp only [Ze] at h
 cases e8 : s0 with
 | nil =>
  try simp only [e8, J3] at h
  by_cases c9 : (ilt s1 k1) = true
  · rw [if_pos c9] at h
    exact absurd h (by simp [Jbj])
  · rw [if_neg c9] at h
    rw [Bool.not_eq_true] at c9
    cases h
    show LK env [] 0 [1, 5, 10, 11, 12] Jhq (some (Qb _ _ _)) = some (Yi _ _ _)
    simp only [Qb, Yi, e8]
    rw [J4]
    simp (maxSteps := 4000000) [c9, e8]
 | lst l7 =>
  try simp only [e8] at h
  by_cases c10 : (ilt s1 k1) = true
  · rw [if_pos c10] at h
    cases h13 : fget (FS.lst l7) s1 with
    | none => (rw [h13] at h; cases h)
    | some v14 =>
     simp only [h13] at h
     have f11 := Y3 (w := 6) h13
     have f12 := h13
     have f15 := (Z1 (e := Jz) f12 true 6 (by decide) (by decide))
     simp only [Jz] at f15
     by_cases c16 : (ieq v14.Kind 3) = true
     · rw [if_pos c16] at h
       have f19 := @Jok _ _ Jz _ (FS.lst l7) s1 v14 (⟨v14.Kind, v14.Role, v14.Layer, v14.Z, (imin v14.Speed k0), v14.Cells⟩ : Jr) f12 4 [.int .i64 (imin v14.Speed k0)] (by simp) (by simp [Jz])
       have f20 := in_row (w := 6) f12 4 1 (by decide)
       try simp at f20
       cases h
       show LK env [] 0 [1, 5, 10, 11, 12] Jhq (some (Qb _ _ _)) = LK env [] 0 [1, 5, 10, 11, 12] Jhq (some (Qb _ _ _))
       simp only [Qb, e8]
       rw [J4]
       simp (maxSteps := 4000000) [c10, c16, e8, f11, f15, f19, f20]
     · rw [if_neg c16] at h
       rw [Bool.not_eq_true] at c16
       cases h
       show LK env [] 0 [1, 5, 10, 11, 12] Jhq (some (Qb _ _ _)) = LK env [] 0 [1, 5, 10, 11, 12] Jhq (some (Qb _ _ _))
       simp only [Qb, e8]
       rw [J4]
       simp (maxSteps := 4000000) [c10, c16, e8, f11, f15]
  · rw [if_neg c10] at h
    rw [Bool.not_eq_true] at c10
    cases h
    show LK env [] 0 [1, 5, 10, 11, 12] Jhq (some (Qb _ _ _)) = some (Yi _ _ _)
    simp only [Qb, Yi, e8]
    rw [J4]
    simp (maxSteps := 4000000) [c10, e8]) bigN s r h
def zg (p0 : (FS Jr)) (p1 : Int) : Option (FS Jr) := (match Qt p0 with
 | none => none
 | some v2 => (match Ku (Ze p1 (flen v2)) bigN (v2, 0) with
 | none => none
 | some v14 => some v14))
theorem Jee {p0 : (FS Jr)} {p1 : Int} {r : (FS Jr)} (h : zg p0 p1 = some r) : FC env 48 [encF Jz p0, .int .i64 p1] none = some (encF Jz r, fun _ => none) := by
 unfold zg at h
 cases h1 : Qt p0 with
 | none => (rw [h1] at h; cases h)
 | some v2 =>
  simp only [h1] at h
  have f3 := Jaf h1
  cases e5 : v2 with
  | nil =>
   try simp only [e5, J3] at h
   simp only [e5, J3, Jj, Ji] at f3
   have f6 : ∀ H : Heap, jt (FC env) 68 H [encF Jz p0] = some (.nils, H) := by
     intro H 
     simp (maxSteps := 4000000) [f3, e5]
   cases h21 : Ku (Ze p1 0) bigN ((FS.nil : (FS Jr)), 0) with
   | none => (rw [h21] at h; cases h)
   | some v22 =>
    simp only [h21] at h
    have f23 := Jch h21
    simp only [Qb, Yi, J8] at f23
    cases e26 : v22 with
    | nil =>
     try simp only [e26, J3] at h
     simp only [e26, J3, Jj, Ji] at f23
     cases h
     refine J9 (lf := lf48) rfl rfl rfl ?_
     simp only [lf48, lc48]
     simp (maxSteps := 4000000) [-Qq, e5, f6, f3, f23, e26]
    | lst l25 =>
     try simp only [e26] at h
     simp only [e26, J3, Jj, Ji] at f23
     cases h
     refine J9 (lf := lf48) rfl rfl rfl ?_
     simp only [lf48, lc48]
     simp (maxSteps := 4000000) [-Qq, e5, f6, f3, f23, e26, Yd (e := Jz) (el := 40) (fz := false)]
  | lst l4 =>
   try simp only [e5] at h
   simp only [e5, J3, Jj, Ji] at f3
   have f27 : ∀ H : Heap, H 701068000 = none → jt (FC env) 68 H [encF Jz p0] = some (.arr 701068000 0 0 (FS.lst l4).l.length, upd H 701068000 (some (.arr 0 6 40 (Jn Jz (FS.lst l4).l) false))) := by
     intro H q0
     simp (maxSteps := 4000000) [q0, f3, e5]
   cases h28 : Ku (Ze p1 (flen (FS.lst l4))) bigN ((FS.lst l4), 0) with
   | none => (rw [h28] at h; cases h)
   | some v29 =>
    simp only [h28] at h
    have f30 := Jch h28
    simp only [Qb, Yi, J8] at f30
    cases e33 : v29 with
    | nil =>
     try simp only [e33, J3] at h
     simp only [e33, J3, Jj, Ji] at f30
     cases h
     refine J9 (lf := lf48) rfl rfl rfl ?_
     simp only [lf48, lc48]
     simp (maxSteps := 4000000) [-Qq, e5, f27, f3, f30, e33]
    | lst l32 =>
     try simp only [e33] at h
     simp only [e33, J3, Jj, Ji] at f30
     cases h
     refine J9 (lf := lf48) rfl rfl rfl ?_
     simp only [lf48, lc48]
     simp (maxSteps := 4000000) [-Qq, e5, f27, f3, f30, e33, Yd (e := Jz) (el := 40) (fz := false)]

/-! cool.duration -/
attribute [simp] c70_0 c70_1 c70_2 c70_3 c70_4 c70_5 c70_6
def Jae (p0 : Jr) : Option Int := (if (bor (band (ine p0.Kind 2) (ine p0.Kind 3)) (ile p0.Speed 0)) = true then some 0
 else (if ieq p0.Speed 0 = true then none else (if (igt (irem (imul .i64 (flen p0.Cells) 1000) p0.Speed) 0) = true then (if ieq p0.Speed 0 = true then none else some (iadd .i64 (iquo .i64 (imul .i64 (flen p0.Cells) 1000) p0.Speed) 1))
 else (if ieq p0.Speed 0 = true then none else some (iquo .i64 (imul .i64 (flen p0.Cells) 1000) p0.Speed)))))
theorem Jhk {p0 : Jr} {r : Int} (h : Jae p0 = some r) : FC env 70 [.agg [.int .i64 p0.Kind, .int .i64 p0.Role, .int .i64 p0.Layer, .int .i64 p0.Z, .int .i64 p0.Speed, encF Jh p0.Cells]] none = some (.int .i64 r, fun _ => none) := by
 unfold Jae at h
 by_cases c1 : (bor (band (ine p0.Kind 2) (ine p0.Kind 3)) (ile p0.Speed 0)) = true
 · rw [if_pos c1] at h
   cases h
   refine J9 (lf := lf70) rfl rfl rfl ?_
   simp only [lf70, lc70]
   rcases tof (ine p0.Kind 2) with a2 | a2
   · rcases tof (ine p0.Kind 3) with a3 | a3
     · simp (maxSteps := 4000000) [a2, a3]
     · rcases tof (ile p0.Speed 0) with a4 | a4
       · simp (maxSteps := 4000000) [a2, a3, a4]
       · simp [a2, a3, a4] at c1
   · rcases tof (ile p0.Speed 0) with a5 | a5
     · simp (maxSteps := 4000000) [a2, a5]
     · simp [a2, a5] at c1
 · rw [if_neg c1] at h
   rw [Bool.not_eq_true] at c1
   by_cases h6 : ieq p0.Speed 0 = true
   · rw [if_pos h6] at h; cases h
   · rw [if_neg h6] at h
     rw [Bool.not_eq_true] at h6
     by_cases c7 : (igt (irem (imul .i64 (flen p0.Cells) 1000) p0.Speed) 0) = true
     · rw [if_pos c7] at h
       by_cases h8 : ieq p0.Speed 0 = true
       · rw [if_pos h8] at h; cases h
       · rw [if_neg h8] at h
         rw [Bool.not_eq_true] at h8
         cases h
         refine J9 (lf := lf70) rfl rfl rfl ?_
         simp only [lf70, lc70]
         rcases tof (ine p0.Kind 2) with a9 | a9
         · rcases tof (ine p0.Kind 3) with a10 | a10
           · simp [a9, a10] at c1
           · rcases tof (ile p0.Speed 0) with a11 | a11
             · simp [a9, a10, a11] at c1
             · simp (maxSteps := 4000000) [a9, a10, a11, c7, h6, h8]
         · rcases tof (ile p0.Speed 0) with a12 | a12
           · simp [a9, a12] at c1
           · simp (maxSteps := 4000000) [a9, a12, c7, h6, h8]
     · rw [if_neg c7] at h
       rw [Bool.not_eq_true] at c7
       by_cases h13 : ieq p0.Speed 0 = true
       · rw [if_pos h13] at h; cases h
       · rw [if_neg h13] at h
         rw [Bool.not_eq_true] at h13
         cases h
         refine J9 (lf := lf70) rfl rfl rfl ?_
         simp only [lf70, lc70]
         rcases tof (ine p0.Kind 2) with a14 | a14
         · rcases tof (ine p0.Kind 3) with a15 | a15
           · simp [a14, a15] at c1
           · rcases tof (ile p0.Speed 0) with a16 | a16
             · simp [a14, a15, a16] at c1
             · simp (maxSteps := 4000000) [a14, a15, a16, c7, h6, h13]
         · rcases tof (ile p0.Speed 0) with a17 | a17
           · simp [a14, a17] at c1
           · simp (maxSteps := 4000000) [a14, a17, c7, h6, h13]

/-! cool.Time -/
attribute [simp] c47_0 c47_1 c47_2 c47_3 c47_4 c47_5 c47_6 c47_8
theorem c47_L0_u (Γ : Env) (ps : List Nat) (σ : St) : EC Γ ps 0 Jl3 σ = EC Γ ps 0 (.seq (.reg false c47_3) (.seq (.cond (.t 9) .skip (.seq (.trim [3]) (.exit 0))) (.seq (.blk 1 (.seq (.reg false c47_4) (.reg false c47_5))) (.reg false c47_6)))) σ := rfl
attribute [simp ↓] c47_L0_u
def z5 (k0 : (FS Jr)) (k1 : Int) (s : (Int × Int)) : Option (LR (Int × Int) Int) := match s with
 | (s0, s1) => (if (ilt s1 k1) = true then (match fget k0 s1 with
 | none => none
 | some v4 => (match Jae v4 with
 | none => none
 | some v7 => some (.nx ((iadd .i64 s0 v7), (iadd .i64 s1 1)))))
 else some (.dn s0))
def Zw (k0 : (FS Jr)) (k1 : Int) (s : (Int × Int)) : St := match s with
 | (s0, s1) => ⟨fr [(3, .int .i64 s0), (6, encF Jz k0), (7, .int .i64 k1), (8, .int .i64 s1)], hl []⟩
def zu (k0 : (FS Jr)) (k1 : Int) (x : Int) : LE × St := (.exit 0, ⟨fr [(3, .int .i64 x)], hl []⟩)
theorem Jic {k0 : (FS Jr)} {k1 : Int} {s : (Int × Int)} {r : Int} (h : Ku (z5 k0 k1) bigN s = some r) : LK env [] 0 [3, 6, 7, 8] Jl3 (some (Zw k0 k1 s)) = some (zu k0 k1 r) := Q3 (st := Zw k0 k1) (out := zu k0 k1) (by
 clear h s r
 rintro ⟨s0, s1⟩ x h
 simp only [z5] at h
 by_cases c1 : (ilt s1 k1) = true
 · rw [if_pos c1] at h
   cases h3 : fget k0 s1 with
   | none => (rw [h3] at h; cases h)
   | some v4 =>
    simp only [h3] at h
    have f2 := K5 (e := Jz) h3
    cases h6 : Jae v4 with
    | none => (rw [h6] at h; cases h)
    | some v7 =>
     simp only [h6] at h
     have f5 := Jhk h6
     cases h
     show LK env [] 0 [3, 6, 7, 8] Jl3 (some (Zw _ _ _)) = LK env [] 0 [3, 6, 7, 8] Jl3 (some (Zw _ _ _))
     simp only [Zw]
     rw [J4]
     simp (maxSteps := 4000000) [c1, f2, f5]
 · rw [if_neg c1] at h
   rw [Bool.not_eq_true] at c1
   cases h
   show LK env [] 0 [3, 6, 7, 8] Jl3 (some (Zw _ _ _)) = some (zu _ _ _)
   simp only [Zw, zu]
   rw [J4]
   simp (maxSteps := 4000000) [c1]) bigN s r h
def Jbu (p0 : (FS Jr)) : Option Int := (match Ku (z5 p0 (flen p0)) bigN (0, 0) with
 | none => none
 | some v9 => some v9)
theorem Jlj {p0 : (FS Jr)} {r : Int} (h : Jbu p0 = some r) : FC env 47 [encF Jz p0] none = some (.int .i64 r, fun _ => none) := by
 unfold Jbu at h
 cases h8 : Ku (z5 p0 (flen p0)) bigN (0, 0) with
 | none => (rw [h8] at h; cases h)
 | some v9 =>
  simp only [h8] at h
  have f10 := Jic h8
  simp only [Zw, zu, J8] at f10
  try simp only [Jj, Ji, Jm, Jw, Jt, Ju, Jv, Js] at f10
  cases h
  refine J9 (lf := lf47) rfl rfl rfl ?_
  simp only [lf47, lc47]
  simp (maxSteps := 4000000) [f10]

/-! cool.Slow$1 -/
attribute [simp] c46_0 c46_1
def Ja2 (p0 : Int) (p1 : (FS Jr)) (p2 : Jy) : Option Bool := (match zg p1 p0 with
 | none => none
 | some v3 => (match Jbu v3 with
 | none => none
 | some v6 => some (ige v6 p2.MinTime)))
theorem Ji9 {p0 : Int} {p1 : (FS Jr)} {p2 : Jy} {r : Bool} (h : Ja2 p0 p1 p2 = some r) : FC env 46 [.int .i64 p0, .rptr [encF Jz p1], .rptr [.int .i64 p2.Pitch, .int .i64 p2.Height, .int .i64 p2.Walls, .int .i64 p2.Top, .int .i64 p2.Bottom, .int .i64 p2.Pattern, .int .i64 p2.Spacing, .bool p2.Support, .int .i64 p2.Reach, .int .i64 p2.Gap, .int .i64 p2.Brim, .int .i64 p2.Skirt, .int .i64 p2.Drop, .int .i64 p2.Feed, .int .i64 p2.Travel, .int .i64 p2.Retract, .int .i64 p2.MinTime, .int .i64 p2.MinFeed, .int .i64 p2.Nozzle, .int .i64 p2.Bed]] none = some (.bool r, fun _ => none) := by
 unfold Ja2 at h
 cases h2 : zg p1 p0 with
 | none => (rw [h2] at h; cases h)
 | some v3 =>
  simp only [h2] at h
  have f1 := Jee h2
  cases h5 : Jbu v3 with
  | none => (rw [h5] at h; cases h)
  | some v6 =>
   simp only [h5] at h
   have f4 := Jlj h5
   cases h
   refine J9 (lf := lf46) rfl rfl rfl ?_
   simp only [lf46, lc46]
   simp (maxSteps := 4000000) [f1, f4]

/-! cool.Slow -/
attribute [simp] c26_0 c26_1 c26_2 c26_3 c26_4 c26_5 c26_6 c26_7 c26_8 c26_9 Jwr c26_12
theorem c26_L0_u (Γ : Env) (ps : List Nat) (σ : St) : EC Γ ps 0 Ji2 σ = EC Γ ps 0 (.seq (.seq (.reg false c26_6) (.cond (.t 30) .skip (.seq (.trim [2, 6]) (.exit 0)))) (.blk 1 (.seq (.reg false c26_7) (.seq (.reg false c26_8) (.cond (.t 38) (.reg false c26_9) (.reg false Jwr)))))) σ := rfl
attribute [simp ↓] c26_L0_u
def ze (k0 : (FS Jr)) (k1 : Jy) (s : (Int × Int)) : Option (LR (Int × Int) Int) := match s with
 | (s0, s1) => (if (ilt s0 s1) = true then (match Ja2 (iquo .i64 (iadd .i64 (iadd .i64 s0 s1) 1) 2) k0 k1 with
 | none => none
 | some v11 => (if v11 = true then some (.nx ((iquo .i64 (iadd .i64 (iadd .i64 s0 s1) 1) 2), s1))
 else some (.nx (s0, (isub .i64 (iquo .i64 (iadd .i64 (iadd .i64 s0 s1) 1) 2) 1)))))
 else some (.dn s0))
def Ya (k0 : (FS Jr)) (k1 : Jy) (s : (Int × Int)) : St := match s with
 | (s0, s1) => ⟨fr [(2, .ptr 2 0 0), (5, .fn 46 [.ptr 2 0 0, .ptr 3 0 0]), (6, .int .i64 s0), (7, .int .i64 s1)], hl [(2, .box 0 [encF Jz k0]), (3, .box 0 [.int .i64 k1.Pitch, .int .i64 k1.Height, .int .i64 k1.Walls, .int .i64 k1.Top, .int .i64 k1.Bottom, .int .i64 k1.Pattern, .int .i64 k1.Spacing, .bool k1.Support, .int .i64 k1.Reach, .int .i64 k1.Gap, .int .i64 k1.Brim, .int .i64 k1.Skirt, .int .i64 k1.Drop, .int .i64 k1.Feed, .int .i64 k1.Travel, .int .i64 k1.Retract, .int .i64 k1.MinTime, .int .i64 k1.MinFeed, .int .i64 k1.Nozzle, .int .i64 k1.Bed])]⟩
def zq (k0 : (FS Jr)) (k1 : Jy) (x : Int) : LE × St := (.exit 0, ⟨fr [(2, .ptr 2 0 0), (6, .int .i64 x)], hl [(2, .box 0 [encF Jz k0])]⟩)
theorem Jie {k0 : (FS Jr)} {k1 : Jy} {s : (Int × Int)} {r : Int} (h : Ku (ze k0 k1) bigN s = some r) : LK env [] 0 [2, 5, 6, 7] Ji2 (some (Ya k0 k1 s)) = some (zq k0 k1 r) := Q3 (st := Ya k0 k1) (out := zq k0 k1) (by
 clear h s r
 rintro ⟨s0, s1⟩ x h
 simp only [ze] at h
 by_cases c9 : (ilt s0 s1) = true
 · rw [if_pos c9] at h
   cases h11 : Ja2 (iquo .i64 (iadd .i64 (iadd .i64 s0 s1) 1) 2) k0 k1 with
   | none => (rw [h11] at h; cases h)
   | some v12 =>
    simp only [h11] at h
    have f10 := Ji9 h11
    by_cases c13 : v12 = true
    · rw [if_pos c13] at h
      cases h
      show LK env [] 0 [2, 5, 6, 7] Ji2 (some (Ya _ _ _)) = LK env [] 0 [2, 5, 6, 7] Ji2 (some (Ya _ _ _))
      simp only [Ya]
      rw [J4]
      try simp only [c9, c13] at f10
      simp (maxSteps := 4000000) [c9, c13, (show ieq 2 0 = false from rfl), f10]
    · rw [if_neg c13] at h
      rw [Bool.not_eq_true] at c13
      cases h
      show LK env [] 0 [2, 5, 6, 7] Ji2 (some (Ya _ _ _)) = LK env [] 0 [2, 5, 6, 7] Ji2 (some (Ya _ _ _))
      simp only [Ya]
      rw [J4]
      try simp only [c9, c13] at f10
      simp (maxSteps := 4000000) [c9, c13, (show ieq 2 0 = false from rfl), f10]
 · rw [if_neg c9] at h
   rw [Bool.not_eq_true] at c9
   cases h
   show LK env [] 0 [2, 5, 6, 7] Ji2 (some (Ya _ _ _)) = some (zq _ _ _)
   simp only [Ya, zq]
   rw [J4]
   simp (maxSteps := 4000000) [c9]) bigN s r h
def Jal (p0 : (FS Jr)) (p1 : Jy) : Option (FS Jr) := (match Ja5 p0 with
 | none => none
 | some v3 => (if (bnot (Xb p1)) = true then some v3
 else (if ieq p1.Pitch 0 = true then none else (if ieq p1.Pitch 0 = true then none else (match Ku (ze v3 p1) bigN ((imax (iquo .i64 p1.MinFeed p1.Pitch) 1), (imax (iquo .i64 p1.Feed p1.Pitch) 1)) with
 | none => none
 | some v14 => (match zg v3 v14 with
 | none => none
 | some v18 => some v18))))))
theorem Jgg {p0 : (FS Jr)} {p1 : Jy} {r : (FS Jr)} (h : Jal p0 p1 = some r) : FC env 26 [encF Jz p0, .agg [.int .i64 p1.Pitch, .int .i64 p1.Height, .int .i64 p1.Walls, .int .i64 p1.Top, .int .i64 p1.Bottom, .int .i64 p1.Pattern, .int .i64 p1.Spacing, .bool p1.Support, .int .i64 p1.Reach, .int .i64 p1.Gap, .int .i64 p1.Brim, .int .i64 p1.Skirt, .int .i64 p1.Drop, .int .i64 p1.Feed, .int .i64 p1.Travel, .int .i64 p1.Retract, .int .i64 p1.MinTime, .int .i64 p1.MinFeed, .int .i64 p1.Nozzle, .int .i64 p1.Bed]] none = some (encF Jz r, fun _ => none) := by
 unfold Jal at h
 cases h2 : Ja5 p0 with
 | none => (rw [h2] at h; cases h)
 | some v3 =>
  simp only [h2] at h
  have f1 := Jja h2
  have f4 := Jfh p1
  by_cases c5 : (bnot (Xb p1)) = true
  · rw [if_pos c5] at h
    cases h
    refine J9 (lf := lf26) rfl rfl rfl ?_
    simp only [lf26, lc26]
    rcases tof (Xb p1) with a6 | a6
    · simp [a6] at c5
    · simp (maxSteps := 4000000) [a6, f1, f4]
  · rw [if_neg c5] at h
    rw [Bool.not_eq_true] at c5
    by_cases h7 : ieq p1.Pitch 0 = true
    · rw [if_pos h7] at h; cases h
    · rw [if_neg h7] at h
      rw [Bool.not_eq_true] at h7
      by_cases h8 : ieq p1.Pitch 0 = true
      · rw [if_pos h8] at h; cases h
      · rw [if_neg h8] at h
        rw [Bool.not_eq_true] at h8
        cases h14 : Ku (ze v3 p1) bigN ((imax (iquo .i64 p1.MinFeed p1.Pitch) 1), (imax (iquo .i64 p1.Feed p1.Pitch) 1)) with
        | none => (rw [h14] at h; cases h)
        | some v15 =>
         simp only [h14] at h
         have f16 := Jie h14
         simp only [Ya, zq, J8] at f16
         try simp only [Jj, Ji, Jm, Jw, Jt, Ju, Jv, Js] at f16
         cases h19 : zg v3 v15 with
         | none => (rw [h19] at h; cases h)
         | some v20 =>
          simp only [h19] at h
          have f18 := Jee h19
          cases h
          refine J9 (lf := lf26) rfl rfl rfl ?_
          simp only [lf26, lc26]
          rcases tof (Xb p1) with a21 | a21
          · try simp only [a21] at f16
            simp (maxSteps := 4000000) [a21, f1, f4, h7, h8, f16, f18]
          · simp [a21] at c5

/-! toolpath.Layer -/
attribute [simp] c7_0 c7_1 c7_2 c7_3 c7_4 c7_5 c7_6 c7_7 c7_8 c7_10 c7_11 c7_12 c7_13 c7_14 c7_15 c7_16 c7_17 c7_18 c7_19 c7_20 c7_22 c7_23 c7_25
theorem c7_L0_u (Γ : Env) (ps : List Nat) (σ : St) : EC Γ ps 0 Jqs σ = EC Γ ps 0 (.seq (.reg false c7_4) (.seq (.cond (.t 44) .skip (.seq (.trim [0, 2, 6, 8, 9, 11]) (.exit 0))) (.seq (.blk 1 (.seq (.reg false c7_5) (.seq (.reg false c7_6) (.cond (.t 49) (.seq (.reg false c7_7) (.seq (.trim [10, 11, 12]) .ret)) .skip)))) (.reg false c7_8)))) σ := rfl
theorem c7_L1_u (Γ : Env) (ps : List Nat) (σ : St) : EC Γ ps 0 Jll σ = EC Γ ps 0 (.seq (.seq (.reg true c7_19) (.cond (.t 99) .skip (.seq (.trim [0, 9, 11, 15, 17, 18]) (.exit 4)))) (.blk 5 (.reg false c7_20))) σ := rfl
theorem c7_L2_u (Γ : Env) (ps : List Nat) (σ : St) : EC Γ ps 0 Jj6 σ = EC Γ ps 0 (.seq (.seq (.reg false c7_17) (.cond (.t 80) .skip (.seq (.trim [9, 11, 15]) (.exit 2)))) (.blk 3 (.seq (.reg false c7_18) (.seq (.blk 4 (.loop [0, 9, 11, 15, 17, 18] Jll)) (.seq (.reg false c7_22) (.reg false c7_23)))))) σ := rfl
attribute [simp ↓] c7_L0_u c7_L1_u c7_L2_u
def X2 (k0 : (FS Jc)) (k1 : Int) (k2 : Jk) (k3 : Ja) (k4 : Jy) (k5 : (FS Jc)) (k6 : Int) (s : (Ja × Int)) : Option (LR (Ja × Int) ((Ja × (FS Jr) × Int) ⊕ Ja)) := match s with
 | (s0, s1) => (if (ilt s1 k6) = true then (match fget k5 s1 with
 | none => none
 | some v10 => (match Y4 v10 with
 | none => none
 | some v13 => (if (bnot v13) = true then some (.dn (.inl ((⟨0, 0⟩ : Ja), (FS.nil : (FS Jr)), 1)))
 else some (.nx (s0, (iadd .i64 s1 1))))))
 else some (.dn (.inr s0)))
def Qr (k0 : (FS Jc)) (k1 : Int) (k2 : Jk) (k3 : Ja) (k4 : Jy) (k5 : (FS Jc)) (k6 : Int) (s : (Ja × Int)) : St := match s with
 | (s0, s1) => ⟨fr [(0, encF Jg k0), (2, .int .i64 k1), (6, .ptr 6 0 0), (8, .ptr 8 0 0), (9, .ptr 9 0 0), (11, .ptr 11 0 0), (41, encF Jg k5), (42, .int .i64 k6), (43, .int .i64 s1)], hl [(6, .box 0 [encF Jl k2.Rows]), (8, .box 0 [.int .i64 k3.X, .int .i64 k3.Y]), (9, .box 0 [.int .i64 k4.Pitch, .int .i64 k4.Height, .int .i64 k4.Walls, .int .i64 k4.Top, .int .i64 k4.Bottom, .int .i64 k4.Pattern, .int .i64 k4.Spacing, .bool k4.Support, .int .i64 k4.Reach, .int .i64 k4.Gap, .int .i64 k4.Brim, .int .i64 k4.Skirt, .int .i64 k4.Drop, .int .i64 k4.Feed, .int .i64 k4.Travel, .int .i64 k4.Retract, .int .i64 k4.MinTime, .int .i64 k4.MinFeed, .int .i64 k4.Nozzle, .int .i64 k4.Bed]), (11, .box 0 [.int .i64 s0.X, .int .i64 s0.Y])]⟩
def Xw (k0 : (FS Jc)) (k1 : Int) (k2 : Jk) (k3 : Ja) (k4 : Jy) (k5 : (FS Jc)) (k6 : Int) (x : ((Ja × (FS Jr) × Int) ⊕ Ja)) : LE × St := match x with
 | .inl x => (.ret, ⟨fr [(10, .nils), (11, .ptr 11 0 0), (12, .int .i64 x.2.2)], hl [(11, .box 0 [.int .i64 x.1.X, .int .i64 x.1.Y])]⟩)
 | .inr x => (.exit 0, ⟨fr [(0, encF Jg k0), (2, .int .i64 k1), (6, .ptr 6 0 0), (8, .ptr 8 0 0), (9, .ptr 9 0 0), (11, .ptr 11 0 0)], hl [(6, .box 0 [encF Jl k2.Rows]), (8, .box 0 [.int .i64 k3.X, .int .i64 k3.Y]), (9, .box 0 [.int .i64 k4.Pitch, .int .i64 k4.Height, .int .i64 k4.Walls, .int .i64 k4.Top, .int .i64 k4.Bottom, .int .i64 k4.Pattern, .int .i64 k4.Spacing, .bool k4.Support, .int .i64 k4.Reach, .int .i64 k4.Gap, .int .i64 k4.Brim, .int .i64 k4.Skirt, .int .i64 k4.Drop, .int .i64 k4.Feed, .int .i64 k4.Travel, .int .i64 k4.Retract, .int .i64 k4.MinTime, .int .i64 k4.MinFeed, .int .i64 k4.Nozzle, .int .i64 k4.Bed]), (11, .box 0 [.int .i64 x.X, .int .i64 x.Y])]⟩)
theorem Je6 {k0 : (FS Jc)} {k1 : Int} {k2 : Jk} {k3 : Ja} {k4 : Jy} {k5 : (FS Jc)} {k6 : Int} {s : (Ja × Int)} {r : ((Ja × (FS Jr) × Int) ⊕ Ja)} (h : Ku (X2 k0 k1 k2 k3 k4 k5 k6) bigN s = some r) : LK env [] 0 [0, 2, 6, 8, 9, 11, 41, 42, 43] Jqs (some (Qr k0 k1 k2 k3 k4 k5 k6 s)) = some (Xw k0 k1 k2 k3 k4 k5 k6 r) := Q3 (st := Qr k0 k1 k2 k3 k4 k5 k6) (out := Xw k0 k1 k2 k3 k4 k5 k6) (by
 clear h s r
 rintro ⟨s0, s1⟩ x h
 simp only [X2] at h
 by_cases c12 : (ilt s1 k6) = true
 · rw [if_pos c12] at h
   cases h14 : fget k5 s1 with
   | none => (rw [h14] at h; cases h)
   | some v15 =>
    simp only [h14] at h
    have f13 := K5 (e := Jg) h14
    cases h17 : Y4 v15 with
    | none => (rw [h17] at h; cases h)
    | some v18 =>
     simp only [h17] at h
     have f16 := Jap h17
     by_cases c19 : (bnot v18) = true
     · rw [if_pos c19] at h
       cases h
       show LK env [] 0 [0, 2, 6, 8, 9, 11, 41, 42, 43] Jqs (some (Qr _ _ _ _ _ _ _ _)) = some (Xw _ _ _ _ _ _ _ _)
       simp only [Qr, Xw]
       rw [J4]
       rcases tof v18 with a20 | a20
       · simp [c12, a20] at c19
       · simp (maxSteps := 4000000) [c12, a20, f13, f16]
     · rw [if_neg c19] at h
       rw [Bool.not_eq_true] at c19
       cases h
       show LK env [] 0 [0, 2, 6, 8, 9, 11, 41, 42, 43] Jqs (some (Qr _ _ _ _ _ _ _ _)) = LK env [] 0 [0, 2, 6, 8, 9, 11, 41, 42, 43] Jqs (some (Qr _ _ _ _ _ _ _ _))
       simp only [Qr]
       rw [J4]
       rcases tof v18 with a21 | a21
       · simp (maxSteps := 4000000) [c12, a21, f13, f16]
       · simp [c12, a21] at c19
 · rw [if_neg c12] at h
   rw [Bool.not_eq_true] at c12
   cases h
   show LK env [] 0 [0, 2, 6, 8, 9, 11, 41, 42, 43] Jqs (some (Qr _ _ _ _ _ _ _ _)) = some (Xw _ _ _ _ _ _ _ _)
   simp only [Qr, Xw]
   rw [J4]
   simp (maxSteps := 4000000) [c12]) bigN s r h
def X1 (k0 : (FS Jc)) (k1 : Jy) (k2 : Ja) (k3 : Jd) (k4 : Int) (s : Int) : Option (LR Int Int) := match s with
 | s0 => (match gOpt (ilt s0 (flen k0)) (fget k0 s0) with
 | none => none
 | some v28 => (match gOpt (ilt s0 (flen k0)) (fget k0 k4) with
 | none => none
 | some v31 => (if (band (ilt s0 (flen k0)) (ieq (((v28.getD (⟨0, false, (FS.nil : (FS Ja))⟩ : Jc))).Role) (((v31.getD (⟨0, false, (FS.nil : (FS Ja))⟩ : Jc))).Role))) = true then some (.nx (iadd .i64 s0 1))
 else some (.dn s0))))
def Kz (k0 : (FS Jc)) (k1 : Jy) (k2 : Ja) (k3 : Jd) (k4 : Int) (s : Int) : St := match s with
 | s0 => (Jab k3.list.ops (⟨fr [(0, encF Jg k0), (9, .ptr 9 0 0), (11, .ptr 11 0 0), (15, .ptr 56 0 0), (17, .int .i64 k4), (18, .int .i64 s0)], hl [(9, .box 0 [.int .i64 k1.Pitch, .int .i64 k1.Height, .int .i64 k1.Walls, .int .i64 k1.Top, .int .i64 k1.Bottom, .int .i64 k1.Pattern, .int .i64 k1.Spacing, .bool k1.Support, .int .i64 k1.Reach, .int .i64 k1.Gap, .int .i64 k1.Brim, .int .i64 k1.Skirt, .int .i64 k1.Drop, .int .i64 k1.Feed, .int .i64 k1.Travel, .int .i64 k1.Retract, .int .i64 k1.MinTime, .int .i64 k1.MinFeed, .int .i64 k1.Nozzle, .int .i64 k1.Bed]), (11, .box 0 [.int .i64 k2.X, .int .i64 k2.Y]), (56, .box 0 [.nils, encF Jl k3.r.Rows, .int .i64 k3.s.Pitch, .int .i64 k3.s.Height, .int .i64 k3.s.Walls, .int .i64 k3.s.Top, .int .i64 k3.s.Bottom, .int .i64 k3.s.Pattern, .int .i64 k3.s.Spacing, .bool k3.s.Support, .int .i64 k3.s.Reach, .int .i64 k3.s.Gap, .int .i64 k3.s.Brim, .int .i64 k3.s.Skirt, .int .i64 k3.s.Drop, .int .i64 k3.s.Feed, .int .i64 k3.s.Travel, .int .i64 k3.s.Retract, .int .i64 k3.s.MinTime, .int .i64 k3.s.MinFeed, .int .i64 k3.s.Nozzle, .int .i64 k3.s.Bed, .int .i64 k3.nozzle.X, .int .i64 k3.nozzle.Y])]⟩)
  (fun l0 => ⟨fr [(0, encF Jg k0), (9, .ptr 9 0 0), (11, .ptr 11 0 0), (15, .ptr 56 0 0), (17, .int .i64 k4), (18, .int .i64 s0)], hl [(9, .box 0 [.int .i64 k1.Pitch, .int .i64 k1.Height, .int .i64 k1.Walls, .int .i64 k1.Top, .int .i64 k1.Bottom, .int .i64 k1.Pattern, .int .i64 k1.Spacing, .bool k1.Support, .int .i64 k1.Reach, .int .i64 k1.Gap, .int .i64 k1.Brim, .int .i64 k1.Skirt, .int .i64 k1.Drop, .int .i64 k1.Feed, .int .i64 k1.Travel, .int .i64 k1.Retract, .int .i64 k1.MinTime, .int .i64 k1.MinFeed, .int .i64 k1.Nozzle, .int .i64 k1.Bed]), (11, .box 0 [.int .i64 k2.X, .int .i64 k2.Y]), (56, .box 0 [.arr 1056000 0 0 l0.l.length, encF Jl k3.r.Rows, .int .i64 k3.s.Pitch, .int .i64 k3.s.Height, .int .i64 k3.s.Walls, .int .i64 k3.s.Top, .int .i64 k3.s.Bottom, .int .i64 k3.s.Pattern, .int .i64 k3.s.Spacing, .bool k3.s.Support, .int .i64 k3.s.Reach, .int .i64 k3.s.Gap, .int .i64 k3.s.Brim, .int .i64 k3.s.Skirt, .int .i64 k3.s.Drop, .int .i64 k3.s.Feed, .int .i64 k3.s.Travel, .int .i64 k3.s.Retract, .int .i64 k3.s.MinTime, .int .i64 k3.s.MinFeed, .int .i64 k3.s.Nozzle, .int .i64 k3.s.Bed, .int .i64 k3.nozzle.X, .int .i64 k3.nozzle.Y]), (1056000, .arr 0 6 40 (Jn Jz l0.l) false)]⟩))
def Xx (k0 : (FS Jc)) (k1 : Jy) (k2 : Ja) (k3 : Jd) (k4 : Int) (x : Int) : LE × St := (Jab k3.list.ops (.exit 4, ⟨fr [(0, encF Jg k0), (9, .ptr 9 0 0), (11, .ptr 11 0 0), (15, .ptr 56 0 0), (17, .int .i64 k4), (18, .int .i64 x)], hl [(9, .box 0 [.int .i64 k1.Pitch, .int .i64 k1.Height, .int .i64 k1.Walls, .int .i64 k1.Top, .int .i64 k1.Bottom, .int .i64 k1.Pattern, .int .i64 k1.Spacing, .bool k1.Support, .int .i64 k1.Reach, .int .i64 k1.Gap, .int .i64 k1.Brim, .int .i64 k1.Skirt, .int .i64 k1.Drop, .int .i64 k1.Feed, .int .i64 k1.Travel, .int .i64 k1.Retract, .int .i64 k1.MinTime, .int .i64 k1.MinFeed, .int .i64 k1.Nozzle, .int .i64 k1.Bed]), (11, .box 0 [.int .i64 k2.X, .int .i64 k2.Y]), (56, .box 0 [.nils, encF Jl k3.r.Rows, .int .i64 k3.s.Pitch, .int .i64 k3.s.Height, .int .i64 k3.s.Walls, .int .i64 k3.s.Top, .int .i64 k3.s.Bottom, .int .i64 k3.s.Pattern, .int .i64 k3.s.Spacing, .bool k3.s.Support, .int .i64 k3.s.Reach, .int .i64 k3.s.Gap, .int .i64 k3.s.Brim, .int .i64 k3.s.Skirt, .int .i64 k3.s.Drop, .int .i64 k3.s.Feed, .int .i64 k3.s.Travel, .int .i64 k3.s.Retract, .int .i64 k3.s.MinTime, .int .i64 k3.s.MinFeed, .int .i64 k3.s.Nozzle, .int .i64 k3.s.Bed, .int .i64 k3.nozzle.X, .int .i64 k3.nozzle.Y])]⟩)
  (fun l0 => (.exit 4, ⟨fr [(0, encF Jg k0), (9, .ptr 9 0 0), (11, .ptr 11 0 0), (15, .ptr 56 0 0), (17, .int .i64 k4), (18, .int .i64 x)], hl [(9, .box 0 [.int .i64 k1.Pitch, .int .i64 k1.Height, .int .i64 k1.Walls, .int .i64 k1.Top, .int .i64 k1.Bottom, .int .i64 k1.Pattern, .int .i64 k1.Spacing, .bool k1.Support, .int .i64 k1.Reach, .int .i64 k1.Gap, .int .i64 k1.Brim, .int .i64 k1.Skirt, .int .i64 k1.Drop, .int .i64 k1.Feed, .int .i64 k1.Travel, .int .i64 k1.Retract, .int .i64 k1.MinTime, .int .i64 k1.MinFeed, .int .i64 k1.Nozzle, .int .i64 k1.Bed]), (11, .box 0 [.int .i64 k2.X, .int .i64 k2.Y]), (56, .box 0 [.arr 1056000 0 0 l0.l.length, encF Jl k3.r.Rows, .int .i64 k3.s.Pitch, .int .i64 k3.s.Height, .int .i64 k3.s.Walls, .int .i64 k3.s.Top, .int .i64 k3.s.Bottom, .int .i64 k3.s.Pattern, .int .i64 k3.s.Spacing, .bool k3.s.Support, .int .i64 k3.s.Reach, .int .i64 k3.s.Gap, .int .i64 k3.s.Brim, .int .i64 k3.s.Skirt, .int .i64 k3.s.Drop, .int .i64 k3.s.Feed, .int .i64 k3.s.Travel, .int .i64 k3.s.Retract, .int .i64 k3.s.MinTime, .int .i64 k3.s.MinFeed, .int .i64 k3.s.Nozzle, .int .i64 k3.s.Bed, .int .i64 k3.nozzle.X, .int .i64 k3.nozzle.Y]), (1056000, .arr 0 6 40 (Jn Jz l0.l) false)]⟩)))
theorem Jbo {k0 : (FS Jc)} {k1 : Jy} {k2 : Ja} {k3 : Jd} {k4 : Int} {s : Int} {r : Int} (h : Ku (X1 k0 k1 k2 k3 k4) bigN s = some r) : LK env [] 0 [0, 9, 11, 15, 17, 18] Jll (some (Kz k0 k1 k2 k3 k4 s)) = some (Xx k0 k1 k2 k3 k4 r) := Q3 (st := Kz k0 k1 k2 k3 k4) (out := Xx k0 k1 k2 k3 k4) (by
 clear h s r
 rintro s0 x h
 simp only [X1] at h
 cases e49 : k3.list.ops with
 | nil =>
  try simp only [e49, J3] at h
  cases h51 : gOpt (ilt s0 (flen k0)) (fget k0 s0) with
  | none => (rw [h51] at h; cases h)
  | some v52 =>
   simp only [h51] at h
   have f50 := fun (q0 : (ilt s0 (flen k0)) = true) => K5 (e := Jg) (Qk (⟨0, false, (FS.nil : (FS Ja))⟩ : Jc) h51 q0)
   cases h54 : gOpt (ilt s0 (flen k0)) (fget k0 k4) with
   | none => (rw [h54] at h; cases h)
   | some v55 =>
    simp only [h54] at h
    have f53 := fun (q0 : (ilt s0 (flen k0)) = true) => K5 (e := Jg) (Qk (⟨0, false, (FS.nil : (FS Ja))⟩ : Jc) h54 q0)
    by_cases c56 : (band (ilt s0 (flen k0)) (ieq (((v52.getD (⟨0, false, (FS.nil : (FS Ja))⟩ : Jc))).Role) (((v55.getD (⟨0, false, (FS.nil : (FS Ja))⟩ : Jc))).Role))) = true
    · rw [if_pos c56] at h
      cases h
      show LK env [] 0 [0, 9, 11, 15, 17, 18] Jll (some (Kz _ _ _ _ _ _)) = LK env [] 0 [0, 9, 11, 15, 17, 18] Jll (some (Kz _ _ _ _ _ _))
      simp only [Kz, e49]
      rw [J4]
      rcases tof (ilt s0 (flen k0)) with a57 | a57
      · rcases tof (ieq (((v52.getD (⟨0, false, (FS.nil : (FS Ja))⟩ : Jc))).Role) (((v55.getD (⟨0, false, (FS.nil : (FS Ja))⟩ : Jc))).Role)) with a58 | a58
        · simp (maxSteps := 4000000) [a57, a58, e49, f50, f53]
        · simp [a57, a58] at c56
      · simp [a57] at c56
    · rw [if_neg c56] at h
      rw [Bool.not_eq_true] at c56
      cases h
      show LK env [] 0 [0, 9, 11, 15, 17, 18] Jll (some (Kz _ _ _ _ _ _)) = some (Xx _ _ _ _ _ _)
      simp only [Kz, Xx, e49]
      rw [J4]
      rcases tof (ilt s0 (flen k0)) with a59 | a59
      · rcases tof (ieq (((v52.getD (⟨0, false, (FS.nil : (FS Ja))⟩ : Jc))).Role) (((v55.getD (⟨0, false, (FS.nil : (FS Ja))⟩ : Jc))).Role)) with a60 | a60
        · simp [a59, a60] at c56
        · simp (maxSteps := 4000000) [a59, a60, e49, f50, f53]
      · simp (maxSteps := 4000000) [a59, e49, f50, f53]
 | lst l48 =>
  try simp only [e49] at h
  cases h62 : gOpt (ilt s0 (flen k0)) (fget k0 s0) with
  | none => (rw [h62] at h; cases h)
  | some v63 =>
   simp only [h62] at h
   have f61 := fun (q0 : (ilt s0 (flen k0)) = true) => K5 (e := Jg) (Qk (⟨0, false, (FS.nil : (FS Ja))⟩ : Jc) h62 q0)
   cases h65 : gOpt (ilt s0 (flen k0)) (fget k0 k4) with
   | none => (rw [h65] at h; cases h)
   | some v66 =>
    simp only [h65] at h
    have f64 := fun (q0 : (ilt s0 (flen k0)) = true) => K5 (e := Jg) (Qk (⟨0, false, (FS.nil : (FS Ja))⟩ : Jc) h65 q0)
    by_cases c67 : (band (ilt s0 (flen k0)) (ieq (((v63.getD (⟨0, false, (FS.nil : (FS Ja))⟩ : Jc))).Role) (((v66.getD (⟨0, false, (FS.nil : (FS Ja))⟩ : Jc))).Role))) = true
    · rw [if_pos c67] at h
      cases h
      show LK env [] 0 [0, 9, 11, 15, 17, 18] Jll (some (Kz _ _ _ _ _ _)) = LK env [] 0 [0, 9, 11, 15, 17, 18] Jll (some (Kz _ _ _ _ _ _))
      simp only [Kz, e49]
      rw [J4]
      rcases tof (ilt s0 (flen k0)) with a68 | a68
      · rcases tof (ieq (((v63.getD (⟨0, false, (FS.nil : (FS Ja))⟩ : Jc))).Role) (((v66.getD (⟨0, false, (FS.nil : (FS Ja))⟩ : Jc))).Role)) with a69 | a69
        · simp (maxSteps := 4000000) [a68, a69, e49, f61, f64]
        · simp [a68, a69] at c67
      · simp [a68] at c67
    · rw [if_neg c67] at h
      rw [Bool.not_eq_true] at c67
      cases h
      show LK env [] 0 [0, 9, 11, 15, 17, 18] Jll (some (Kz _ _ _ _ _ _)) = some (Xx _ _ _ _ _ _)
      simp only [Kz, Xx, e49]
      rw [J4]
      rcases tof (ilt s0 (flen k0)) with a70 | a70
      · rcases tof (ieq (((v63.getD (⟨0, false, (FS.nil : (FS Ja))⟩ : Jc))).Role) (((v66.getD (⟨0, false, (FS.nil : (FS Ja))⟩ : Jc))).Role)) with a71 | a71
        · simp [a70, a71] at c67
        · simp (maxSteps := 4000000) [a70, a71, e49, f61, f64]
      · simp (maxSteps := 4000000) [a70, e49, f61, f64]) bigN s r h
def Xn (k0 : (FS Jc)) (k1 : Jy) (k2 : Ja) (s : (Jd × Int)) : Option (LR (Jd × Int) Jd) := match s with
 | (s0, s1) => (if (ilt s1 (flen k0)) = true then (match Ku (X1 k0 k1 k2 (⟨(⟨s0.list.ops⟩ : Jp), s0.r, s0.s, s0.nozzle⟩ : Jd) s1) bigN (iadd .i64 s1 1) with
 | none => none
 | some v34 => (match fsl k0 s1 v34 with
 | none => none
 | some v38 => (match Q8 (⟨(⟨s0.list.ops⟩ : Jp), s0.r, s0.s, s0.nozzle⟩ : Jd) v38 with
 | none => none
 | some v40 => some (.nx ((⟨(⟨v40.list.ops⟩ : Jp), v40.r, v40.s, v40.nozzle⟩ : Jd), v34)))))
 else some (.dn (⟨(⟨s0.list.ops⟩ : Jp), s0.r, s0.s, s0.nozzle⟩ : Jd)))
def Km (k0 : (FS Jc)) (k1 : Jy) (k2 : Ja) (s : (Jd × Int)) : St := match s with
 | (s0, s1) => (Jab s0.list.ops (⟨fr [(0, encF Jg k0), (9, .ptr 9 0 0), (11, .ptr 11 0 0), (15, .ptr 56 0 0), (17, .int .i64 s1)], hl [(9, .box 0 [.int .i64 k1.Pitch, .int .i64 k1.Height, .int .i64 k1.Walls, .int .i64 k1.Top, .int .i64 k1.Bottom, .int .i64 k1.Pattern, .int .i64 k1.Spacing, .bool k1.Support, .int .i64 k1.Reach, .int .i64 k1.Gap, .int .i64 k1.Brim, .int .i64 k1.Skirt, .int .i64 k1.Drop, .int .i64 k1.Feed, .int .i64 k1.Travel, .int .i64 k1.Retract, .int .i64 k1.MinTime, .int .i64 k1.MinFeed, .int .i64 k1.Nozzle, .int .i64 k1.Bed]), (11, .box 0 [.int .i64 k2.X, .int .i64 k2.Y]), (56, .box 0 [.nils, encF Jl s0.r.Rows, .int .i64 s0.s.Pitch, .int .i64 s0.s.Height, .int .i64 s0.s.Walls, .int .i64 s0.s.Top, .int .i64 s0.s.Bottom, .int .i64 s0.s.Pattern, .int .i64 s0.s.Spacing, .bool s0.s.Support, .int .i64 s0.s.Reach, .int .i64 s0.s.Gap, .int .i64 s0.s.Brim, .int .i64 s0.s.Skirt, .int .i64 s0.s.Drop, .int .i64 s0.s.Feed, .int .i64 s0.s.Travel, .int .i64 s0.s.Retract, .int .i64 s0.s.MinTime, .int .i64 s0.s.MinFeed, .int .i64 s0.s.Nozzle, .int .i64 s0.s.Bed, .int .i64 s0.nozzle.X, .int .i64 s0.nozzle.Y])]⟩)
  (fun l0 => ⟨fr [(0, encF Jg k0), (9, .ptr 9 0 0), (11, .ptr 11 0 0), (15, .ptr 56 0 0), (17, .int .i64 s1)], hl [(9, .box 0 [.int .i64 k1.Pitch, .int .i64 k1.Height, .int .i64 k1.Walls, .int .i64 k1.Top, .int .i64 k1.Bottom, .int .i64 k1.Pattern, .int .i64 k1.Spacing, .bool k1.Support, .int .i64 k1.Reach, .int .i64 k1.Gap, .int .i64 k1.Brim, .int .i64 k1.Skirt, .int .i64 k1.Drop, .int .i64 k1.Feed, .int .i64 k1.Travel, .int .i64 k1.Retract, .int .i64 k1.MinTime, .int .i64 k1.MinFeed, .int .i64 k1.Nozzle, .int .i64 k1.Bed]), (11, .box 0 [.int .i64 k2.X, .int .i64 k2.Y]), (56, .box 0 [.arr 1056000 0 0 l0.l.length, encF Jl s0.r.Rows, .int .i64 s0.s.Pitch, .int .i64 s0.s.Height, .int .i64 s0.s.Walls, .int .i64 s0.s.Top, .int .i64 s0.s.Bottom, .int .i64 s0.s.Pattern, .int .i64 s0.s.Spacing, .bool s0.s.Support, .int .i64 s0.s.Reach, .int .i64 s0.s.Gap, .int .i64 s0.s.Brim, .int .i64 s0.s.Skirt, .int .i64 s0.s.Drop, .int .i64 s0.s.Feed, .int .i64 s0.s.Travel, .int .i64 s0.s.Retract, .int .i64 s0.s.MinTime, .int .i64 s0.s.MinFeed, .int .i64 s0.s.Nozzle, .int .i64 s0.s.Bed, .int .i64 s0.nozzle.X, .int .i64 s0.nozzle.Y]), (1056000, .arr 0 6 40 (Jn Jz l0.l) false)]⟩))
def Xv (k0 : (FS Jc)) (k1 : Jy) (k2 : Ja) (x : Jd) : LE × St := (Jab x.list.ops (.exit 2, ⟨fr [(9, .ptr 9 0 0), (11, .ptr 11 0 0), (15, .ptr 56 0 0)], hl [(9, .box 0 [.int .i64 k1.Pitch, .int .i64 k1.Height, .int .i64 k1.Walls, .int .i64 k1.Top, .int .i64 k1.Bottom, .int .i64 k1.Pattern, .int .i64 k1.Spacing, .bool k1.Support, .int .i64 k1.Reach, .int .i64 k1.Gap, .int .i64 k1.Brim, .int .i64 k1.Skirt, .int .i64 k1.Drop, .int .i64 k1.Feed, .int .i64 k1.Travel, .int .i64 k1.Retract, .int .i64 k1.MinTime, .int .i64 k1.MinFeed, .int .i64 k1.Nozzle, .int .i64 k1.Bed]), (11, .box 0 [.int .i64 k2.X, .int .i64 k2.Y]), (56, .box 0 [.nils, encF Jl x.r.Rows, .int .i64 x.s.Pitch, .int .i64 x.s.Height, .int .i64 x.s.Walls, .int .i64 x.s.Top, .int .i64 x.s.Bottom, .int .i64 x.s.Pattern, .int .i64 x.s.Spacing, .bool x.s.Support, .int .i64 x.s.Reach, .int .i64 x.s.Gap, .int .i64 x.s.Brim, .int .i64 x.s.Skirt, .int .i64 x.s.Drop, .int .i64 x.s.Feed, .int .i64 x.s.Travel, .int .i64 x.s.Retract, .int .i64 x.s.MinTime, .int .i64 x.s.MinFeed, .int .i64 x.s.Nozzle, .int .i64 x.s.Bed, .int .i64 x.nozzle.X, .int .i64 x.nozzle.Y])]⟩)
  (fun l0 => (.exit 2, ⟨fr [(9, .ptr 9 0 0), (11, .ptr 11 0 0), (15, .ptr 56 0 0)], hl [(9, .box 0 [.int .i64 k1.Pitch, .int .i64 k1.Height, .int .i64 k1.Walls, .int .i64 k1.Top, .int .i64 k1.Bottom, .int .i64 k1.Pattern, .int .i64 k1.Spacing, .bool k1.Support, .int .i64 k1.Reach, .int .i64 k1.Gap, .int .i64 k1.Brim, .int .i64 k1.Skirt, .int .i64 k1.Drop, .int .i64 k1.Feed, .int .i64 k1.Travel, .int .i64 k1.Retract, .int .i64 k1.MinTime, .int .i64 k1.MinFeed, .int .i64 k1.Nozzle, .int .i64 k1.Bed]), (11, .box 0 [.int .i64 k2.X, .int .i64 k2.Y]), (56, .box 0 [.arr 1056000 0 0 l0.l.length, encF Jl x.r.Rows, .int .i64 x.s.Pitch, .int .i64 x.s.Height, .int .i64 x.s.Walls, .int .i64 x.s.Top, .int .i64 x.s.Bottom, .int .i64 x.s.Pattern, .int .i64 x.s.Spacing, .bool x.s.Support, .int .i64 x.s.Reach, .int .i64 x.s.Gap, .int .i64 x.s.Brim, .int .i64 x.s.Skirt, .int .i64 x.s.Drop, .int .i64 x.s.Feed, .int .i64 x.s.Travel, .int .i64 x.s.Retract, .int .i64 x.s.MinTime, .int .i64 x.s.MinFeed, .int .i64 x.s.Nozzle, .int .i64 x.s.Bed, .int .i64 x.nozzle.X, .int .i64 x.nozzle.Y]), (1056000, .arr 0 6 40 (Jn Jz l0.l) false)]⟩)))
theorem Jbp {k0 : (FS Jc)} {k1 : Jy} {k2 : Ja} {s : (Jd × Int)} {r : Jd} (h : Ku (Xn k0 k1 k2) bigN s = some r) : LK env [] 0 [0, 9, 11, 15, 17] Jj6 (some (Km k0 k1 k2 s)) = some (Xv k0 k1 k2 r) ∧ (Lst s.1.list.ops → Lst r.list.ops) := Jip (P := fun s => Lst s.1.list.ops) (Q := fun r => Lst r.list.ops) (st := Km k0 k1 k2) (out := Xv k0 k1 k2) (by
 clear h s r
 rintro ⟨s0, s1⟩ x h
 simp only [Xn] at h
 cases e46 : s0.list.ops with
 | nil =>
  try simp only [e46, J3] at h
  by_cases c47 : (ilt s1 (flen k0)) = true
  · rw [if_pos c47] at h
    cases h72 : Ku (X1 k0 k1 k2 (⟨(⟨(FS.nil : (FS Jr))⟩ : Jp), s0.r, s0.s, s0.nozzle⟩ : Jd) s1) bigN (iadd .i64 s1 1) with
    | none => (rw [h72] at h; cases h)
    | some v73 =>
     simp only [h72] at h
     have f74 := Jbo h72
     simp only [Kz, Xx, J8] at f74
     try simp only [Jj, Ji, Jm, Jw, Jt, Ju, Jv, Js] at f74
     cases h77 : fsl k0 s1 v73 with
     | none => (rw [h77] at h; cases h)
     | some v78 =>
      simp only [h77] at h
      have f76 := Jmw (e := Jg) h77
      cases h79 : Q8 (⟨(⟨(FS.nil : (FS Jr))⟩ : Jp), s0.r, s0.s, s0.nozzle⟩ : Jd) v78 with
      | none => (rw [h79] at h; cases h)
      | some v80 =>
       simp only [h79] at h
       have f81 := Jcl rfl h79
       try simp only [J8, Xs, Jj, Ji, Jm, Jw, Jt, Ju, Jv, Js] at f81
       cases e83 : v80.list.ops with
       | nil =>
        try simp only [e83, J3] at h
        simp only [e83, J3, Jj, Ji] at f81
        have f84 : ∀ H : Heap, H 56 = some (.box 0 [.nils, encF Jl s0.r.Rows, .int .i64 s0.s.Pitch, .int .i64 s0.s.Height, .int .i64 s0.s.Walls, .int .i64 s0.s.Top, .int .i64 s0.s.Bottom, .int .i64 s0.s.Pattern, .int .i64 s0.s.Spacing, .bool s0.s.Support, .int .i64 s0.s.Reach, .int .i64 s0.s.Gap, .int .i64 s0.s.Brim, .int .i64 s0.s.Skirt, .int .i64 s0.s.Drop, .int .i64 s0.s.Feed, .int .i64 s0.s.Travel, .int .i64 s0.s.Retract, .int .i64 s0.s.MinTime, .int .i64 s0.s.MinFeed, .int .i64 s0.s.Nozzle, .int .i64 s0.s.Bed, .int .i64 s0.nozzle.X, .int .i64 s0.nozzle.Y]) → jt (FC env) 25 H [.ptr 56 0 0, encF Jg v78] = some (.tup [], upd H 56 (some (.box 0 [.nils, encF Jl v80.r.Rows, .int .i64 v80.s.Pitch, .int .i64 v80.s.Height, .int .i64 v80.s.Walls, .int .i64 v80.s.Top, .int .i64 v80.s.Bottom, .int .i64 v80.s.Pattern, .int .i64 v80.s.Spacing, .bool v80.s.Support, .int .i64 v80.s.Reach, .int .i64 v80.s.Gap, .int .i64 v80.s.Brim, .int .i64 v80.s.Skirt, .int .i64 v80.s.Drop, .int .i64 v80.s.Feed, .int .i64 v80.s.Travel, .int .i64 v80.s.Retract, .int .i64 v80.s.MinTime, .int .i64 v80.s.MinFeed, .int .i64 v80.s.Nozzle, .int .i64 v80.s.Bed, .int .i64 v80.nozzle.X, .int .i64 v80.nozzle.Y]))) := by
          intro H q0
          simp (maxSteps := 4000000) [q0, f81, e83]
        cases h
        refine ⟨?_, fun k => ?_⟩
        · show LK env [] 0 [0, 9, 11, 15, 17] Jj6 (some (Km _ _ _ _)) = LK env [] 0 [0, 9, 11, 15, 17] Jj6 (some (Km _ _ _ _))
          simp only [Km, e46]
          rw [J4]
          try simp only [c47] at f74 f81
          simp (maxSteps := 4000000) [-Qq, c47, e46, f74, f76, e83, f84, f81]
        · obtain ⟨_, k⟩ := k
          first | exact (Jio k).elim | exact (Jio (e46.symm.trans k)).elim
       | lst l82 =>
        try simp only [e83] at h
        simp only [e83, J3, Jj, Ji] at f81
        have f85 : ∀ H : Heap, H 56 = some (.box 0 [.nils, encF Jl s0.r.Rows, .int .i64 s0.s.Pitch, .int .i64 s0.s.Height, .int .i64 s0.s.Walls, .int .i64 s0.s.Top, .int .i64 s0.s.Bottom, .int .i64 s0.s.Pattern, .int .i64 s0.s.Spacing, .bool s0.s.Support, .int .i64 s0.s.Reach, .int .i64 s0.s.Gap, .int .i64 s0.s.Brim, .int .i64 s0.s.Skirt, .int .i64 s0.s.Drop, .int .i64 s0.s.Feed, .int .i64 s0.s.Travel, .int .i64 s0.s.Retract, .int .i64 s0.s.MinTime, .int .i64 s0.s.MinFeed, .int .i64 s0.s.Nozzle, .int .i64 s0.s.Bed, .int .i64 s0.nozzle.X, .int .i64 s0.nozzle.Y]) → H 1056000 = none → jt (FC env) 25 H [.ptr 56 0 0, encF Jg v78] = some (.tup [], upd (upd H 1056000 (some (.arr 0 6 40 (Jn Jz (FS.lst l82).l) false))) 56 (some (.box 0 [.arr 1056000 0 0 (FS.lst l82).l.length, encF Jl v80.r.Rows, .int .i64 v80.s.Pitch, .int .i64 v80.s.Height, .int .i64 v80.s.Walls, .int .i64 v80.s.Top, .int .i64 v80.s.Bottom, .int .i64 v80.s.Pattern, .int .i64 v80.s.Spacing, .bool v80.s.Support, .int .i64 v80.s.Reach, .int .i64 v80.s.Gap, .int .i64 v80.s.Brim, .int .i64 v80.s.Skirt, .int .i64 v80.s.Drop, .int .i64 v80.s.Feed, .int .i64 v80.s.Travel, .int .i64 v80.s.Retract, .int .i64 v80.s.MinTime, .int .i64 v80.s.MinFeed, .int .i64 v80.s.Nozzle, .int .i64 v80.s.Bed, .int .i64 v80.nozzle.X, .int .i64 v80.nozzle.Y]))) := by
          intro H q0 q1
          simp (maxSteps := 4000000) [q0, q1, f81, e83]
        cases h
        refine ⟨?_, fun k => ?_⟩
        · show LK env [] 0 [0, 9, 11, 15, 17] Jj6 (some (Km _ _ _ _)) = LK env [] 0 [0, 9, 11, 15, 17] Jj6 (some (Km _ _ _ _))
          simp only [Km, e46]
          rw [J4]
          try simp only [c47] at f74 f81
          simp (maxSteps := 4000000) [-Qq, c47, e46, f74, f76, e83, f85, f81]
        · obtain ⟨_, k⟩ := k
          first | exact (Jio k).elim | exact (Jio (e46.symm.trans k)).elim
  · rw [if_neg c47] at h
    rw [Bool.not_eq_true] at c47
    cases h
    refine ⟨?_, fun k => ?_⟩
    · show LK env [] 0 [0, 9, 11, 15, 17] Jj6 (some (Km _ _ _ _)) = some (Xv _ _ _ _)
      simp only [Km, Xv, e46]
      rw [J4]
      simp (maxSteps := 4000000) [c47, e46]
    · obtain ⟨_, k⟩ := k
      first | exact (Jio k).elim | exact (Jio (e46.symm.trans k)).elim
 | lst l45 =>
  try simp only [e46] at h
  by_cases c86 : (ilt s1 (flen k0)) = true
  · rw [if_pos c86] at h
    cases h87 : Ku (X1 k0 k1 k2 (⟨(⟨(FS.lst l45)⟩ : Jp), s0.r, s0.s, s0.nozzle⟩ : Jd) s1) bigN (iadd .i64 s1 1) with
    | none => (rw [h87] at h; cases h)
    | some v88 =>
     simp only [h87] at h
     have f89 := Jbo h87
     simp only [Kz, Xx, J8] at f89
     try simp only [Jj, Ji, Jm, Jw, Jt, Ju, Jv, Js] at f89
     cases h92 : fsl k0 s1 v88 with
     | none => (rw [h92] at h; cases h)
     | some v93 =>
      simp only [h92] at h
      have f91 := Jmw (e := Jg) h92
      cases h94 : Q8 (⟨(⟨(FS.lst l45)⟩ : Jp), s0.r, s0.s, s0.nozzle⟩ : Jd) v93 with
      | none => (rw [h94] at h; cases h)
      | some v95 =>
       simp only [h94] at h
       obtain ⟨f96, ⟨l98, e97⟩⟩ := Jco rfl h94
       simp only [e97] at f96
       try simp only [e97] at h
       try simp only [J8, Xs, Jj, Ji, Jm, Jw, Jt, Ju, Jv, Js] at f96
       try simp only [Jj, Ji, Jm, Jw, Jt, Ju, Jv, Js] at f96
       have f99 : ∀ H : Heap, H 56 = some (.box 0 [.arr 1056000 0 0 (FS.lst l45).l.length, encF Jl s0.r.Rows, .int .i64 s0.s.Pitch, .int .i64 s0.s.Height, .int .i64 s0.s.Walls, .int .i64 s0.s.Top, .int .i64 s0.s.Bottom, .int .i64 s0.s.Pattern, .int .i64 s0.s.Spacing, .bool s0.s.Support, .int .i64 s0.s.Reach, .int .i64 s0.s.Gap, .int .i64 s0.s.Brim, .int .i64 s0.s.Skirt, .int .i64 s0.s.Drop, .int .i64 s0.s.Feed, .int .i64 s0.s.Travel, .int .i64 s0.s.Retract, .int .i64 s0.s.MinTime, .int .i64 s0.s.MinFeed, .int .i64 s0.s.Nozzle, .int .i64 s0.s.Bed, .int .i64 s0.nozzle.X, .int .i64 s0.nozzle.Y]) → H 1056000 = some (.arr 0 6 40 (Jn Jz (FS.lst l45).l) false) → jt (FC env) 25 H [.ptr 56 0 0, encF Jg v93] = some (.tup [], upd (upd H 1056000 (some (.arr 1 6 40 (Jn Jz (FS.lst l98).l) false))) 56 (some (.box 0 [.arr 1056000 1 0 (FS.lst l98).l.length, encF Jl v95.r.Rows, .int .i64 v95.s.Pitch, .int .i64 v95.s.Height, .int .i64 v95.s.Walls, .int .i64 v95.s.Top, .int .i64 v95.s.Bottom, .int .i64 v95.s.Pattern, .int .i64 v95.s.Spacing, .bool v95.s.Support, .int .i64 v95.s.Reach, .int .i64 v95.s.Gap, .int .i64 v95.s.Brim, .int .i64 v95.s.Skirt, .int .i64 v95.s.Drop, .int .i64 v95.s.Feed, .int .i64 v95.s.Travel, .int .i64 v95.s.Retract, .int .i64 v95.s.MinTime, .int .i64 v95.s.MinFeed, .int .i64 v95.s.Nozzle, .int .i64 v95.s.Bed, .int .i64 v95.nozzle.X, .int .i64 v95.nozzle.Y]))) := by
         intro H q0 q1
         simp (maxSteps := 4000000) [q0, q1, f96]
       cases h
       refine ⟨?_, fun k => ?_⟩
       · show LK env [] 0 [0, 9, 11, 15, 17] Jj6 (some (Km _ _ _ _)) = LK env [] 0 [0, 9, 11, 15, 17] Jj6 (some (Km _ _ _ _))
         simp only [Km, e46]
         rw [J4]
         try simp only [c86] at f89 f96
         simp (maxSteps := 4000000) [-Qq, c86, e46, f89, f91, e97, f99, f96]
       · first | exact ⟨_, rfl⟩ | exact ⟨_, by assumption⟩
  · rw [if_neg c86] at h
    rw [Bool.not_eq_true] at c86
    cases h
    refine ⟨?_, fun k => ?_⟩
    · show LK env [] 0 [0, 9, 11, 15, 17] Jj6 (some (Km _ _ _ _)) = some (Xv _ _ _ _)
      simp only [Km, Xv, e46]
      rw [J4]
      simp (maxSteps := 4000000) [c86, e46]
    · first | exact ⟨_, rfl⟩ | exact ⟨_, by assumption⟩) bigN s r h
def j7 (p0 : (FS Jc)) (p1 : Jk) (p2 : Int) (p3 : Ja) (p4 : Jy) : Option ((FS Jr) × Ja × Int) := (match gOpt (bnot (bnot (Xb p4))) (js p1) with
 | none => none
 | some v4 => (if (bor (bor (bor (bor (bnot (Xb p4)) (bnot (v4.getD false))) (ilt p2 0)) (ige p2 256)) (bnot (Zd p3))) = true then some ((FS.nil : (FS Jr)), (⟨0, 0⟩ : Ja), 1)
 else (match Ku (X2 p0 p2 p1 p3 p4 p0 (flen p0)) bigN ((⟨0, 0⟩ : Ja), 0) with
 | none => none
 | some v16 => (match v16 with
 | .inl v16x => some ((FS.nil : (FS Jr)), v16x.1, v16x.2.2)
 | .inr v16x => (match Je (⟨(⟨(FS.nil : (FS Jr))⟩ : Jp), p1, p4, p3⟩ : Jd) (⟨1, 0, p2, (imul .i64 (iadd .i64 p2 1) p4.Height), 0, (FS.nil : (FS Ja))⟩ : Jr) with
 | none => none
 | some v19 => (if (igt p2 0) = true then (match Je (⟨(⟨v19.list.ops⟩ : Jp), v19.r, v19.s, v19.nozzle⟩ : Jd) (⟨6, 0, 0, 0, 255, (FS.nil : (FS Ja))⟩ : Jr) with
 | none => none
 | some v23 => (match Ku (Xn p0 p4 v16x) bigN ((⟨(⟨v23.list.ops⟩ : Jp), v23.r, v23.s, v23.nozzle⟩ : Jd), 0) with
 | none => none
 | some v43 => (match Jal v43.list.ops p4 with
 | none => none
 | some v47 => some (v47, v43.nozzle, 0))))
 else (match Je (⟨(⟨v19.list.ops⟩ : Jp), v19.r, v19.s, v19.nozzle⟩ : Jd) (⟨6, 0, 0, 0, 0, (FS.nil : (FS Ja))⟩ : Jr) with
 | none => none
 | some v49 => (match Ku (Xn p0 p4 v16x) bigN ((⟨(⟨v49.list.ops⟩ : Jp), v49.r, v49.s, v49.nozzle⟩ : Jd), 0) with
 | none => none
 | some v52 => (match Jal v52.list.ops p4 with
 | none => none
 | some v56 => some (v56, v52.nozzle, 0))))))))))
theorem Jgx {p0 : (FS Jc)} {p1 : Jk} {p2 : Int} {p3 : Ja} {p4 : Jy} {r : ((FS Jr) × Ja × Int)} (h : j7 p0 p1 p2 p3 p4 = some r) : FC env 7 [encF Jg p0, .agg [encF Jl p1.Rows], .int .i64 p2, .agg [.int .i64 p3.X, .int .i64 p3.Y], .agg [.int .i64 p4.Pitch, .int .i64 p4.Height, .int .i64 p4.Walls, .int .i64 p4.Top, .int .i64 p4.Bottom, .int .i64 p4.Pattern, .int .i64 p4.Spacing, .bool p4.Support, .int .i64 p4.Reach, .int .i64 p4.Gap, .int .i64 p4.Brim, .int .i64 p4.Skirt, .int .i64 p4.Drop, .int .i64 p4.Feed, .int .i64 p4.Travel, .int .i64 p4.Retract, .int .i64 p4.MinTime, .int .i64 p4.MinFeed, .int .i64 p4.Nozzle, .int .i64 p4.Bed]] none = some (.tup [encF Jz r.1, .agg [.int .i64 r.2.1.X, .int .i64 r.2.1.Y], .int .i64 r.2.2], fun _ => none) := by
 unfold j7 at h
 have f1 := Jfh p4
 cases h3 : gOpt (bnot (bnot (Xb p4))) (js p1) with
 | none => (rw [h3] at h; cases h)
 | some v4 =>
  simp only [h3] at h
  have f2 := fun (q0 : (bnot (Xb p4)) = false) => Jeg (Qk false h3 (Zj q0))
  have f5 := Jjd p3
  by_cases c6 : (bor (bor (bor (bor (bnot (Xb p4)) (bnot (v4.getD false))) (ilt p2 0)) (ige p2 256)) (bnot (Zd p3))) = true
  · rw [if_pos c6] at h
    cases h
    refine J9 (lf := lf7) rfl rfl rfl ?_
    simp only [lf7, lc7]
    rcases tof (Xb p4) with a7 | a7
    · rcases tof (v4.getD false) with a8 | a8
      · rcases tof (ilt p2 0) with a9 | a9
        · simp (maxSteps := 4000000) [a7, a8, a9, f1, f2, f5, jk, tupS, Z5, Zc, Z9, Zf, Z2]
        · rcases tof (ige p2 256) with a10 | a10
          · simp (maxSteps := 4000000) [a7, a8, a9, a10, f1, f2, f5, jk, tupS, Z5, Zc, Z9, Zf, Z2]
          · rcases tof (Zd p3) with a11 | a11
            · simp [a7, a8, a9, a10, a11] at c6
            · simp (maxSteps := 4000000) [a7, a8, a9, a10, a11, f1, f2, f5, jk, tupS, Z5, Zc, Z9, Zf, Z2]
      · simp (maxSteps := 4000000) [a7, a8, f1, f2, f5, jk, tupS, Z5, Zc, Z9, Zf, Z2]
    · simp (maxSteps := 4000000) [a7, f1, f2, f5, jk, tupS, Z5, Zc, Z9, Zf, Z2]
  · rw [if_neg c6] at h
    rw [Bool.not_eq_true] at c6
    cases h22 : Ku (X2 p0 p2 p1 p3 p4 p0 (flen p0)) bigN ((⟨0, 0⟩ : Ja), 0) with
    | none => (rw [h22] at h; cases h)
    | some v23 =>
     simp only [h22] at h
     have f24 := Je6 h22
     cases v23 with
     | inl v23x =>
      try simp only at h
      simp only [Qr, Xw, J8] at f24
      try simp only [Jj, Ji, Jm, Jw, Jt, Ju, Jv, Js] at f24
      cases h
      refine J9 (lf := lf7) rfl rfl rfl ?_
      simp only [lf7, lc7]
      rcases tof (Xb p4) with a26 | a26
      · rcases tof (v4.getD false) with a27 | a27
        · rcases tof (ilt p2 0) with a28 | a28
          · simp [a26, a27, a28] at c6
          · rcases tof (ige p2 256) with a29 | a29
            · simp [a26, a27, a28, a29] at c6
            · rcases tof (Zd p3) with a30 | a30
              · try simp only [a26, a27, a28, a29, a30] at f24
                simp (maxSteps := 4000000) [a26, a27, a28, a29, a30, f1, f2, f5, f24, jk, tupS, Z5, Zc, Z9, Zf, Z2]
              · simp [a26, a27, a28, a29, a30] at c6
        · simp [a26, a27] at c6
      · simp [a26] at c6
     | inr v23x =>
      try simp only at h
      simp only [Qr, Xw, J8] at f24
      try simp only [Jj, Ji, Jm, Jw, Jt, Ju, Jv, Js] at f24
      cases h32 : Je (⟨(⟨(FS.nil : (FS Jr))⟩ : Jp), p1, p4, p3⟩ : Jd) (⟨1, 0, p2, (imul .i64 (iadd .i64 p2 1) p4.Height), 0, (FS.nil : (FS Ja))⟩ : Jr) with
      | none => (rw [h32] at h; cases h)
      | some v33 =>
       simp only [h32] at h
       obtain ⟨f34, ⟨l36, e35⟩⟩ := Ky rfl h32
       simp only [e35] at f34
       try simp only [e35] at h
       try simp only [J8, Xs, Jj, Ji, Jm, Jw, Jt, Ju, Jv, Js] at f34
       try simp only [Jj, Ji, Jm, Jw, Jt, Ju, Jv, Js] at f34
       have f37 : ∀ H : Heap, H 56 = some (.box 0 [.nils, encF Jl p1.Rows, .int .i64 p4.Pitch, .int .i64 p4.Height, .int .i64 p4.Walls, .int .i64 p4.Top, .int .i64 p4.Bottom, .int .i64 p4.Pattern, .int .i64 p4.Spacing, .bool p4.Support, .int .i64 p4.Reach, .int .i64 p4.Gap, .int .i64 p4.Brim, .int .i64 p4.Skirt, .int .i64 p4.Drop, .int .i64 p4.Feed, .int .i64 p4.Travel, .int .i64 p4.Retract, .int .i64 p4.MinTime, .int .i64 p4.MinFeed, .int .i64 p4.Nozzle, .int .i64 p4.Bed, .int .i64 p3.X, .int .i64 p3.Y]) → H 1056000 = none → jt (FC env) 24 H [.ptr 56 0 0, .agg [.int .i64 1, .int .i64 0, .int .i64 p2, .int .i64 (imul .i64 (iadd .i64 p2 1) p4.Height), .int .i64 0, .nils]] = some (.tup [], upd (upd H 1056000 (some (.arr 0 6 40 (Jn Jz (FS.lst l36).l) false))) 56 (some (.box 0 [.arr 1056000 0 0 (FS.lst l36).l.length, encF Jl v33.r.Rows, .int .i64 v33.s.Pitch, .int .i64 v33.s.Height, .int .i64 v33.s.Walls, .int .i64 v33.s.Top, .int .i64 v33.s.Bottom, .int .i64 v33.s.Pattern, .int .i64 v33.s.Spacing, .bool v33.s.Support, .int .i64 v33.s.Reach, .int .i64 v33.s.Gap, .int .i64 v33.s.Brim, .int .i64 v33.s.Skirt, .int .i64 v33.s.Drop, .int .i64 v33.s.Feed, .int .i64 v33.s.Travel, .int .i64 v33.s.Retract, .int .i64 v33.s.MinTime, .int .i64 v33.s.MinFeed, .int .i64 v33.s.Nozzle, .int .i64 v33.s.Bed, .int .i64 v33.nozzle.X, .int .i64 v33.nozzle.Y]))) := by
         intro H q0 q1
         simp (maxSteps := 4000000) [q0, q1, f34]
       by_cases c38 : (igt p2 0) = true
       · rw [if_pos c38] at h
         cases h39 : Je (⟨(⟨(FS.lst l36)⟩ : Jp), v33.r, v33.s, v33.nozzle⟩ : Jd) (⟨6, 0, 0, 0, 255, (FS.nil : (FS Ja))⟩ : Jr) with
         | none => (rw [h39] at h; cases h)
         | some v40 =>
          simp only [h39] at h
          obtain ⟨f41, ⟨l43, e42⟩⟩ := Jx rfl h39
          simp only [e42] at f41
          try simp only [e42] at h
          try simp only [J8, Xs, Jj, Ji, Jm, Jw, Jt, Ju, Jv, Js] at f41
          try simp only [Jj, Ji, Jm, Jw, Jt, Ju, Jv, Js] at f41
          have f44 : ∀ H : Heap, H 56 = some (.box 0 [.arr 1056000 0 0 (FS.lst l36).l.length, encF Jl v33.r.Rows, .int .i64 v33.s.Pitch, .int .i64 v33.s.Height, .int .i64 v33.s.Walls, .int .i64 v33.s.Top, .int .i64 v33.s.Bottom, .int .i64 v33.s.Pattern, .int .i64 v33.s.Spacing, .bool v33.s.Support, .int .i64 v33.s.Reach, .int .i64 v33.s.Gap, .int .i64 v33.s.Brim, .int .i64 v33.s.Skirt, .int .i64 v33.s.Drop, .int .i64 v33.s.Feed, .int .i64 v33.s.Travel, .int .i64 v33.s.Retract, .int .i64 v33.s.MinTime, .int .i64 v33.s.MinFeed, .int .i64 v33.s.Nozzle, .int .i64 v33.s.Bed, .int .i64 v33.nozzle.X, .int .i64 v33.nozzle.Y]) → H 1056000 = some (.arr 0 6 40 (Jn Jz (FS.lst l36).l) false) → jt (FC env) 24 H [.ptr 56 0 0, .agg [.int .i64 6, .int .i64 0, .int .i64 0, .int .i64 0, .int .i64 255, .nils]] = some (.tup [], upd (upd H 1056000 (some (.arr 1 6 40 (Jn Jz (FS.lst l43).l) false))) 56 (some (.box 0 [.arr 1056000 1 0 (FS.lst l43).l.length, encF Jl v40.r.Rows, .int .i64 v40.s.Pitch, .int .i64 v40.s.Height, .int .i64 v40.s.Walls, .int .i64 v40.s.Top, .int .i64 v40.s.Bottom, .int .i64 v40.s.Pattern, .int .i64 v40.s.Spacing, .bool v40.s.Support, .int .i64 v40.s.Reach, .int .i64 v40.s.Gap, .int .i64 v40.s.Brim, .int .i64 v40.s.Skirt, .int .i64 v40.s.Drop, .int .i64 v40.s.Feed, .int .i64 v40.s.Travel, .int .i64 v40.s.Retract, .int .i64 v40.s.MinTime, .int .i64 v40.s.MinFeed, .int .i64 v40.s.Nozzle, .int .i64 v40.s.Bed, .int .i64 v40.nozzle.X, .int .i64 v40.nozzle.Y]))) := by
            intro H q0 q1
            simp (maxSteps := 4000000) [q0, q1, f41]
          cases h100 : Ku (Xn p0 p4 v23x) bigN ((⟨(⟨(FS.lst l43)⟩ : Jp), v40.r, v40.s, v40.nozzle⟩ : Jd), 0) with
          | none => (rw [h100] at h; cases h)
          | some v101 =>
           simp only [h100] at h
           obtain ⟨f102, f102k⟩ := Jbp h100
           simp only [Km, Xv, J8] at f102
           cases e105 : v101.list.ops with
           | nil =>
            obtain ⟨_, k⟩ := f102k ⟨_, rfl⟩
            exact (Jio (e105.symm.trans k)).elim
           | lst l104 =>
            try simp only [e105] at h
            simp only [e105, J3, Jj, Ji] at f102
            cases h107 : Jal (FS.lst l104) p4 with
            | none => (rw [h107] at h; cases h)
            | some v108 =>
             simp only [h107] at h
             have f106 := Jgg h107
             try simp only [Xs] at f106
             cases h
             refine J9 (lf := lf7) rfl rfl rfl ?_
             simp only [lf7, lc7]
             rcases tof (Xb p4) with a109 | a109
             · rcases tof (v4.getD false) with a110 | a110
               · rcases tof (ilt p2 0) with a111 | a111
                 · simp [a109, a110, a111] at c6
                 · rcases tof (ige p2 256) with a112 | a112
                   · simp [a109, a110, a111, a112] at c6
                   · rcases tof (Zd p3) with a113 | a113
                     · try simp only [a109, a110, a111, a112, a113, c38] at f24 f34 f41 f102
                       simp (maxSteps := 4000000) [-Qq, a109, a110, a111, a112, a113, c38, f1, f2, f5, f24, e35, f37, f34, e42, f44, f41, f102, e105, Yd (e := Jz) (el := 40) (fz := false), f106, jk, tupS, Z5, Zc, Z9, Zf, Z2]
                     · simp [a109, a110, a111, a112, a113] at c6
               · simp [a109, a110] at c6
             · simp [a109] at c6
       · rw [if_neg c38] at h
         rw [Bool.not_eq_true] at c38
         cases h114 : Je (⟨(⟨(FS.lst l36)⟩ : Jp), v33.r, v33.s, v33.nozzle⟩ : Jd) (⟨6, 0, 0, 0, 0, (FS.nil : (FS Ja))⟩ : Jr) with
         | none => (rw [h114] at h; cases h)
         | some v115 =>
          simp only [h114] at h
          obtain ⟨f116, ⟨l118, e117⟩⟩ := Jx rfl h114
          simp only [e117] at f116
          try simp only [e117] at h
          try simp only [J8, Xs, Jj, Ji, Jm, Jw, Jt, Ju, Jv, Js] at f116
          try simp only [Jj, Ji, Jm, Jw, Jt, Ju, Jv, Js] at f116
          have f119 : ∀ H : Heap, H 56 = some (.box 0 [.arr 1056000 0 0 (FS.lst l36).l.length, encF Jl v33.r.Rows, .int .i64 v33.s.Pitch, .int .i64 v33.s.Height, .int .i64 v33.s.Walls, .int .i64 v33.s.Top, .int .i64 v33.s.Bottom, .int .i64 v33.s.Pattern, .int .i64 v33.s.Spacing, .bool v33.s.Support, .int .i64 v33.s.Reach, .int .i64 v33.s.Gap, .int .i64 v33.s.Brim, .int .i64 v33.s.Skirt, .int .i64 v33.s.Drop, .int .i64 v33.s.Feed, .int .i64 v33.s.Travel, .int .i64 v33.s.Retract, .int .i64 v33.s.MinTime, .int .i64 v33.s.MinFeed, .int .i64 v33.s.Nozzle, .int .i64 v33.s.Bed, .int .i64 v33.nozzle.X, .int .i64 v33.nozzle.Y]) → H 1056000 = some (.arr 0 6 40 (Jn Jz (FS.lst l36).l) false) → jt (FC env) 24 H [.ptr 56 0 0, .agg [.int .i64 6, .int .i64 0, .int .i64 0, .int .i64 0, .int .i64 0, .nils]] = some (.tup [], upd (upd H 1056000 (some (.arr 1 6 40 (Jn Jz (FS.lst l118).l) false))) 56 (some (.box 0 [.arr 1056000 1 0 (FS.lst l118).l.length, encF Jl v115.r.Rows, .int .i64 v115.s.Pitch, .int .i64 v115.s.Height, .int .i64 v115.s.Walls, .int .i64 v115.s.Top, .int .i64 v115.s.Bottom, .int .i64 v115.s.Pattern, .int .i64 v115.s.Spacing, .bool v115.s.Support, .int .i64 v115.s.Reach, .int .i64 v115.s.Gap, .int .i64 v115.s.Brim, .int .i64 v115.s.Skirt, .int .i64 v115.s.Drop, .int .i64 v115.s.Feed, .int .i64 v115.s.Travel, .int .i64 v115.s.Retract, .int .i64 v115.s.MinTime, .int .i64 v115.s.MinFeed, .int .i64 v115.s.Nozzle, .int .i64 v115.s.Bed, .int .i64 v115.nozzle.X, .int .i64 v115.nozzle.Y]))) := by
            intro H q0 q1
            simp (maxSteps := 4000000) [q0, q1, f116]
          cases h120 : Ku (Xn p0 p4 v23x) bigN ((⟨(⟨(FS.lst l118)⟩ : Jp), v115.r, v115.s, v115.nozzle⟩ : Jd), 0) with
          | none => (rw [h120] at h; cases h)
          | some v121 =>
           simp only [h120] at h
           obtain ⟨f122, f122k⟩ := Jbp h120
           simp only [Km, Xv, J8] at f122
           cases e125 : v121.list.ops with
           | nil =>
            obtain ⟨_, k⟩ := f122k ⟨_, rfl⟩
            exact (Jio (e125.symm.trans k)).elim
           | lst l124 =>
            try simp only [e125] at h
            simp only [e125, J3, Jj, Ji] at f122
            cases h127 : Jal (FS.lst l124) p4 with
            | none => (rw [h127] at h; cases h)
            | some v128 =>
             simp only [h127] at h
             have f126 := Jgg h127
             try simp only [Xs] at f126
             cases h
             refine J9 (lf := lf7) rfl rfl rfl ?_
             simp only [lf7, lc7]
             rcases tof (Xb p4) with a129 | a129
             · rcases tof (v4.getD false) with a130 | a130
               · rcases tof (ilt p2 0) with a131 | a131
                 · simp [a129, a130, a131] at c6
                 · rcases tof (ige p2 256) with a132 | a132
                   · simp [a129, a130, a131, a132] at c6
                   · rcases tof (Zd p3) with a133 | a133
                     · try simp only [a129, a130, a131, a132, a133, c38] at f24 f34 f116 f122
                       simp (maxSteps := 4000000) [-Qq, a129, a130, a131, a132, a133, c38, f1, f2, f5, f24, e35, f37, f34, e117, f119, f116, f122, e125, Yd (e := Jz) (el := 40) (fz := false), f126, jk, tupS, Z5, Zc, Z9, Zf, Z2]
                     · simp [a129, a130, a131, a132, a133] at c6
               · simp [a129, a130] at c6
             · simp [a129] at c6

/-! additivelaw38.ToolpathSpeeds -/
attribute [simp] c4_0 c4_1 c4_2 c4_3 c4_4 c4_5 c4_6 c4_7 c4_8 c4_9 c4_10 c4_11 c4_12 c4_13 c4_15
theorem c4_L0_u (Γ : Env) (ps : List Nat) (σ : St) : EC Γ ps 0 Jp9 σ = EC Γ ps 0 (.seq (.seq (.reg false c4_9) (.cond (.t 89) .skip (.seq (.trim []) (.exit 0)))) (.seq (.blk 1 (.seq (.reg false c4_10) (.seq (.reg true c4_11) (.cond (.t 140) (.seq (.reg false c4_12) (.seq (.trim [4]) .ret)) .skip)))) (.reg false c4_13))) σ := rfl
attribute [simp ↓] c4_L0_u
def Kk (k0 : Jy) (k1 : (FS Jr)) (s : Int) : Option (LR Int (Bool ⊕ Unit)) := match s with
 | s0 => (if (ilt s0 (flen k1)) = true then (match fget k1 s0 with
 | none => none
 | some v37 => (match gOpt (band (bnot (bor (ieq v37.Kind 1) (ieq v37.Kind 6))) (ieq v37.Kind 2)) (quoO .i64 k0.Travel k0.Pitch) with
 | none => none
 | some v41 => (match gOpt (band (band (bnot (bor (bor (ieq v37.Kind 1) (ieq v37.Kind 6)) (band (ieq v37.Kind 2) (ine v37.Speed (imax 1 (v41.getD 0)))))) (ieq v37.Kind 3)) (bnot (ilt v37.Speed 1))) (quoO .i64 k0.Feed k0.Pitch) with
 | none => none
 | some v45 => (if (bor (bor (bor (ieq v37.Kind 1) (ieq v37.Kind 6)) (band (ieq v37.Kind 2) (ine v37.Speed (imax 1 (v41.getD 0))))) (band (ieq v37.Kind 3) (bor (ilt v37.Speed 1) (igt v37.Speed (imax 1 (v45.getD 0)))))) = true then some (.dn (.inl false))
 else some (.nx (iadd .i64 s0 1))))))
 else some (.dn (.inr ())))
def Ke (k0 : Jy) (k1 : (FS Jr)) (s : Int) : St := match s with
 | s0 => ⟨fr [(3, .ptr 3 0 0), (5, encF Jz k1), (8, .int .i64 s0)], hl [(3, .box 0 [.int .i64 k0.Pitch, .int .i64 k0.Height, .int .i64 k0.Walls, .int .i64 k0.Top, .int .i64 k0.Bottom, .int .i64 k0.Pattern, .int .i64 k0.Spacing, .bool k0.Support, .int .i64 k0.Reach, .int .i64 k0.Gap, .int .i64 k0.Brim, .int .i64 k0.Skirt, .int .i64 k0.Drop, .int .i64 k0.Feed, .int .i64 k0.Travel, .int .i64 k0.Retract, .int .i64 k0.MinTime, .int .i64 k0.MinFeed, .int .i64 k0.Nozzle, .int .i64 k0.Bed])]⟩
def Kt (k0 : Jy) (k1 : (FS Jr)) (x : (Bool ⊕ Unit)) : LE × St := match x with
 | .inl x => (.ret, ⟨fr [(4, .bool x)], hl []⟩)
 | .inr x => (.exit 0, ⟨fr [], hl []⟩)
theorem Jba {k0 : Jy} {k1 : (FS Jr)} {s : Int} {r : (Bool ⊕ Unit)} (h : Ku (Kk k0 k1) bigN s = some r) : LK env [] 0 [3, 5, 8] Jp9 (some (Ke k0 k1 s)) = some (Kt k0 k1 r) := Q3 (st := Ke k0 k1) (out := Kt k0 k1) (by
 clear h s r
 rintro s0 x h
 simp only [Kk] at h
 by_cases c46 : (ilt s0 (flen k1)) = true
 · rw [if_pos c46] at h
   cases h48 : fget k1 s0 with
   | none => (rw [h48] at h; cases h)
   | some v49 =>
    simp only [h48] at h
    have f47 := K5 (e := Jz) h48
    cases h52 : gOpt (band (bnot (bor (ieq v49.Kind 1) (ieq v49.Kind 6))) (ieq v49.Kind 2)) (quoO .i64 k0.Travel k0.Pitch) with
    | none => (rw [h52] at h; cases h)
    | some v53 =>
     simp only [h52] at h
     have f50 := fun (q0 : (bor (ieq v49.Kind 1) (ieq v49.Kind 6)) = false) (q1 : (ieq v49.Kind 2) = true) => Juv (Qk 0 h52 (Jc5 (Zj q0) q1))
     have f51 := fun (q0 : (bor (ieq v49.Kind 1) (ieq v49.Kind 6)) = false) (q1 : (ieq v49.Kind 2) = true) => Jup (Qk 0 h52 (Jc5 (Zj q0) q1))
     cases h56 : gOpt (band (band (bnot (bor (bor (ieq v49.Kind 1) (ieq v49.Kind 6)) (band (ieq v49.Kind 2) (ine v49.Speed (imax 1 (v53.getD 0)))))) (ieq v49.Kind 3)) (bnot (ilt v49.Speed 1))) (quoO .i64 k0.Feed k0.Pitch) with
     | none => (rw [h56] at h; cases h)
     | some v57 =>
      simp only [h56] at h
      have f54 := fun (q0 : (bor (bor (ieq v49.Kind 1) (ieq v49.Kind 6)) (band (ieq v49.Kind 2) (ine v49.Speed (imax 1 (v53.getD 0))))) = false) (q1 : (ieq v49.Kind 3) = true) (q2 : (ilt v49.Speed 1) = false) => Juv (Qk 0 h56 (Jc5 (Jc5 (Zj q0) q1) (Zj q2)))
      have f55 := fun (q0 : (bor (bor (ieq v49.Kind 1) (ieq v49.Kind 6)) (band (ieq v49.Kind 2) (ine v49.Speed (imax 1 (v53.getD 0))))) = false) (q1 : (ieq v49.Kind 3) = true) (q2 : (ilt v49.Speed 1) = false) => Jup (Qk 0 h56 (Jc5 (Jc5 (Zj q0) q1) (Zj q2)))
      by_cases c58 : (bor (bor (bor (ieq v49.Kind 1) (ieq v49.Kind 6)) (band (ieq v49.Kind 2) (ine v49.Speed (imax 1 (v53.getD 0))))) (band (ieq v49.Kind 3) (bor (ilt v49.Speed 1) (igt v49.Speed (imax 1 (v57.getD 0)))))) = true
      · rw [if_pos c58] at h
        cases h
        show LK env [] 0 [3, 5, 8] Jp9 (some (Ke _ _ _)) = some (Kt _ _ _)
        simp only [Ke, Kt]
        rw [J4]
        rcases tof (ieq v49.Kind 1) with a59 | a59
        · simp (maxSteps := 4000000) [c46, a59, f47, f50, f51, f54, f55]
        · rcases tof (ieq v49.Kind 6) with a60 | a60
          · simp (maxSteps := 4000000) [c46, a59, a60, f47, f50, f51, f54, f55]
          · rcases tof (ieq v49.Kind 2) with a61 | a61
            · rcases tof (ine v49.Speed (imax 1 (v53.getD 0))) with a62 | a62
              · simp (maxSteps := 4000000) [c46, a59, a60, a61, a62, f47, f50, f51, f54, f55]
              · rcases tof (ieq v49.Kind 3) with a63 | a63
                · rcases tof (ilt v49.Speed 1) with a64 | a64
                  · simp (maxSteps := 4000000) [c46, a59, a60, a61, a62, a63, a64, f47, f50, f51, f54, f55]
                  · rcases tof (igt v49.Speed (imax 1 (v57.getD 0))) with a65 | a65
                    · simp (maxSteps := 4000000) [c46, a59, a60, a61, a62, a63, a64, a65, f47, f50, f51, f54, f55]
                    · simp [c46, a59, a60, a61, a62, a63, a64, a65] at c58
                · simp [c46, a59, a60, a61, a62, a63] at c58
            · rcases tof (ieq v49.Kind 3) with a66 | a66
              · rcases tof (ilt v49.Speed 1) with a67 | a67
                · simp (maxSteps := 4000000) [c46, a59, a60, a61, a66, a67, f47, f50, f51, f54, f55]
                · rcases tof (igt v49.Speed (imax 1 (v57.getD 0))) with a68 | a68
                  · simp (maxSteps := 4000000) [c46, a59, a60, a61, a66, a67, a68, f47, f50, f51, f54, f55]
                  · simp [c46, a59, a60, a61, a66, a67, a68] at c58
              · simp [c46, a59, a60, a61, a66] at c58
      · rw [if_neg c58] at h
        rw [Bool.not_eq_true] at c58
        cases h
        show LK env [] 0 [3, 5, 8] Jp9 (some (Ke _ _ _)) = LK env [] 0 [3, 5, 8] Jp9 (some (Ke _ _ _))
        simp only [Ke]
        rw [J4]
        rcases tof (ieq v49.Kind 1) with a69 | a69
        · simp [c46, a69] at c58
        · rcases tof (ieq v49.Kind 6) with a70 | a70
          · simp [c46, a69, a70] at c58
          · rcases tof (ieq v49.Kind 2) with a71 | a71
            · rcases tof (ine v49.Speed (imax 1 (v53.getD 0))) with a72 | a72
              · simp [c46, a69, a70, a71, a72] at c58
              · rcases tof (ieq v49.Kind 3) with a73 | a73
                · rcases tof (ilt v49.Speed 1) with a74 | a74
                  · simp [c46, a69, a70, a71, a72, a73, a74] at c58
                  · rcases tof (igt v49.Speed (imax 1 (v57.getD 0))) with a75 | a75
                    · simp [c46, a69, a70, a71, a72, a73, a74, a75] at c58
                    · simp (maxSteps := 4000000) [c46, a69, a70, a71, a72, a73, a74, a75, f47, f50, f51, f54, f55]
                · simp (maxSteps := 4000000) [c46, a69, a70, a71, a72, a73, f47, f50, f51, f54, f55]
            · rcases tof (ieq v49.Kind 3) with a76 | a76
              · rcases tof (ilt v49.Speed 1) with a77 | a77
                · simp [c46, a69, a70, a71, a76, a77] at c58
                · rcases tof (igt v49.Speed (imax 1 (v57.getD 0))) with a78 | a78
                  · simp [c46, a69, a70, a71, a76, a77, a78] at c58
                  · simp (maxSteps := 4000000) [c46, a69, a70, a71, a76, a77, a78, f47, f50, f51, f54, f55]
              · simp (maxSteps := 4000000) [c46, a69, a70, a71, a76, f47, f50, f51, f54, f55]
 · rw [if_neg c46] at h
   rw [Bool.not_eq_true] at c46
   cases h
   show LK env [] 0 [3, 5, 8] Jp9 (some (Ke _ _ _)) = some (Kt _ _ _)
   simp only [Ke, Kt]
   rw [J4]
   simp (maxSteps := 4000000) [c46]) bigN s r h
def Zo (p0 : Q6) (p1 : Jy) : Option Bool := (match jq p0 with
 | none => none
 | some v3 => (match gOpt (bnot (bnot v3)) (Zu p1) with
 | none => none
 | some v6 => (if (bor (bnot v3) (bnot (v6.getD false))) = true then some zr
 else (match j7 p0.Tracks p0.Region p0.Index p0.From p1 with
 | none => none
 | some v11 => (if (ine v11.2.2 0) = true then some zr
 else (match gOpt (bnot (ilt (flen v11.1) 2)) (fget v11.1 0) with
 | none => none
 | some v16 => (match gOpt (bnot (bor (ilt (flen v11.1) 2) (ine (((v16.getD (⟨0, 0, 0, 0, 0, (FS.nil : (FS Ja))⟩ : Jr))).Kind) 1))) (fget v11.1 0) with
 | none => none
 | some v19 => (match gOpt (bnot (bor (bor (ilt (flen v11.1) 2) (ine (((v16.getD (⟨0, 0, 0, 0, 0, (FS.nil : (FS Ja))⟩ : Jr))).Kind) 1)) (ine (((v19.getD (⟨0, 0, 0, 0, 0, (FS.nil : (FS Ja))⟩ : Jr))).Layer) p0.Index))) (fget v11.1 0) with
 | none => none
 | some v23 => (match gOpt (bnot (bor (bor (bor (ilt (flen v11.1) 2) (ine (((v16.getD (⟨0, 0, 0, 0, 0, (FS.nil : (FS Ja))⟩ : Jr))).Kind) 1)) (ine (((v19.getD (⟨0, 0, 0, 0, 0, (FS.nil : (FS Ja))⟩ : Jr))).Layer) p0.Index)) (ine (((v23.getD (⟨0, 0, 0, 0, 0, (FS.nil : (FS Ja))⟩ : Jr))).Z) (imul .i64 (iadd .i64 p0.Index 1) p1.Height)))) (fget v11.1 1) with
 | none => none
 | some v28 => (match gOpt (bnot (bor (bor (bor (bor (ilt (flen v11.1) 2) (ine (((v16.getD (⟨0, 0, 0, 0, 0, (FS.nil : (FS Ja))⟩ : Jr))).Kind) 1)) (ine (((v19.getD (⟨0, 0, 0, 0, 0, (FS.nil : (FS Ja))⟩ : Jr))).Layer) p0.Index)) (ine (((v23.getD (⟨0, 0, 0, 0, 0, (FS.nil : (FS Ja))⟩ : Jr))).Z) (imul .i64 (iadd .i64 p0.Index 1) p1.Height))) (ine (((v28.getD (⟨0, 0, 0, 0, 0, (FS.nil : (FS Ja))⟩ : Jr))).Kind) 6))) (fget v11.1 1) with
 | none => none
 | some v31 => (if (bor (bor (bor (bor (bor (ilt (flen v11.1) 2) (ine (((v16.getD (⟨0, 0, 0, 0, 0, (FS.nil : (FS Ja))⟩ : Jr))).Kind) 1)) (ine (((v19.getD (⟨0, 0, 0, 0, 0, (FS.nil : (FS Ja))⟩ : Jr))).Layer) p0.Index)) (ine (((v23.getD (⟨0, 0, 0, 0, 0, (FS.nil : (FS Ja))⟩ : Jr))).Z) (imul .i64 (iadd .i64 p0.Index 1) p1.Height))) (ine (((v28.getD (⟨0, 0, 0, 0, 0, (FS.nil : (FS Ja))⟩ : Jr))).Kind) 6)) (bnot (band (beqB (ieq (((v31.getD (⟨0, 0, 0, 0, 0, (FS.nil : (FS Ja))⟩ : Jr))).Speed) 0) (ieq p0.Index 0)) true))) = true then some false
 else (match Ku (Kk p1 v11.1) bigN 2 with
 | none => none
 | some v48 => (match v48 with
 | .inl v48x => some v48x
 | .inr v48x => some zr)))))))))))))
theorem Jbk {p0 : Q6} {p1 : Jy} {r : Bool} (h : Zo p0 p1 = some r) : FC env 4 [.agg [encF Jg p0.Tracks, encF Jl p0.Region.Rows, .int .i64 p0.Index, .int .i64 p0.From.X, .int .i64 p0.From.Y], .agg [.int .i64 p1.Pitch, .int .i64 p1.Height, .int .i64 p1.Walls, .int .i64 p1.Top, .int .i64 p1.Bottom, .int .i64 p1.Pattern, .int .i64 p1.Spacing, .bool p1.Support, .int .i64 p1.Reach, .int .i64 p1.Gap, .int .i64 p1.Brim, .int .i64 p1.Skirt, .int .i64 p1.Drop, .int .i64 p1.Feed, .int .i64 p1.Travel, .int .i64 p1.Retract, .int .i64 p1.MinTime, .int .i64 p1.MinFeed, .int .i64 p1.Nozzle, .int .i64 p1.Bed]] none = some (.bool r, fun _ => none) := by
 unfold Zo at h
 cases h2 : jq p0 with
 | none => (rw [h2] at h; cases h)
 | some v3 =>
  simp only [h2] at h
  have f1 := Je7 h2
  cases h5 : gOpt (bnot (bnot v3)) (Zu p1) with
  | none => (rw [h5] at h; cases h)
  | some v6 =>
   simp only [h5] at h
   have f4 := fun (q0 : (bnot v3) = false) => Jec (Qk false h5 (Zj q0))
   by_cases c7 : (bor (bnot v3) (bnot (v6.getD false))) = true
   · rw [if_pos c7] at h
     have f8 := Jac 
     cases h
     refine J9 (lf := lf4) rfl rfl rfl ?_
     simp only [lf4, lc4]
     rcases tof v3 with a9 | a9
     · rcases tof (v6.getD false) with a10 | a10
       · simp [a9, a10] at c7
       · simp (maxSteps := 4000000) [a9, a10, f1, f4, f8]
     · simp (maxSteps := 4000000) [a9, f1, f4, f8]
   · rw [if_neg c7] at h
     rw [Bool.not_eq_true] at c7
     cases h12 : j7 p0.Tracks p0.Region p0.Index p0.From p1 with
     | none => (rw [h12] at h; cases h)
     | some v13 =>
      simp only [h12] at h
      have f11 := Jgx h12
      by_cases c14 : (ine v13.2.2 0) = true
      · rw [if_pos c14] at h
        have f15 := Jac 
        cases h
        refine J9 (lf := lf4) rfl rfl rfl ?_
        simp only [lf4, lc4]
        rcases tof v3 with a16 | a16
        · rcases tof (v6.getD false) with a17 | a17
          · simp (maxSteps := 4000000) [a16, a17, c14, f1, f4, f11, f15]
          · simp [a16, a17] at c7
        · simp [a16] at c7
      · rw [if_neg c14] at h
        rw [Bool.not_eq_true] at c14
        cases h19 : gOpt (bnot (ilt (flen v13.1) 2)) (fget v13.1 0) with
        | none => (rw [h19] at h; cases h)
        | some v20 =>
         simp only [h19] at h
         have f18 := fun (q0 : (ilt (flen v13.1) 2) = false) => K5 (e := Jz) (Qk (⟨0, 0, 0, 0, 0, (FS.nil : (FS Ja))⟩ : Jr) h19 (Zj q0))
         cases h22 : gOpt (bnot (bor (ilt (flen v13.1) 2) (ine (((v20.getD (⟨0, 0, 0, 0, 0, (FS.nil : (FS Ja))⟩ : Jr))).Kind) 1))) (fget v13.1 0) with
         | none => (rw [h22] at h; cases h)
         | some v23 =>
          simp only [h22] at h
          have f21 := fun (q0 : (bor (ilt (flen v13.1) 2) (ine (((v20.getD (⟨0, 0, 0, 0, 0, (FS.nil : (FS Ja))⟩ : Jr))).Kind) 1)) = false) => K5 (e := Jz) (Qk (⟨0, 0, 0, 0, 0, (FS.nil : (FS Ja))⟩ : Jr) h22 (Zj q0))
          have f24 := fun (q0 : (ilt (flen v13.1) 2) = false) (r0 : (bor (ilt (flen v13.1) 2) (ine (((v20.getD (⟨0, 0, 0, 0, 0, (FS.nil : (FS Ja))⟩ : Jr))).Kind) 1)) = false) => Jjj (⟨0, 0, 0, 0, 0, (FS.nil : (FS Ja))⟩ : Jr) h19 (Zj q0) (Qk (⟨0, 0, 0, 0, 0, (FS.nil : (FS Ja))⟩ : Jr) h22 (Zj r0))
          cases h26 : gOpt (bnot (bor (bor (ilt (flen v13.1) 2) (ine (((v20.getD (⟨0, 0, 0, 0, 0, (FS.nil : (FS Ja))⟩ : Jr))).Kind) 1)) (ine (((v23.getD (⟨0, 0, 0, 0, 0, (FS.nil : (FS Ja))⟩ : Jr))).Layer) p0.Index))) (fget v13.1 0) with
          | none => (rw [h26] at h; cases h)
          | some v27 =>
           simp only [h26] at h
           have f25 := fun (q0 : (bor (bor (ilt (flen v13.1) 2) (ine (((v20.getD (⟨0, 0, 0, 0, 0, (FS.nil : (FS Ja))⟩ : Jr))).Kind) 1)) (ine (((v23.getD (⟨0, 0, 0, 0, 0, (FS.nil : (FS Ja))⟩ : Jr))).Layer) p0.Index)) = false) => K5 (e := Jz) (Qk (⟨0, 0, 0, 0, 0, (FS.nil : (FS Ja))⟩ : Jr) h26 (Zj q0))
           have f28 := fun (q0 : (ilt (flen v13.1) 2) = false) (r0 : (bor (bor (ilt (flen v13.1) 2) (ine (((v20.getD (⟨0, 0, 0, 0, 0, (FS.nil : (FS Ja))⟩ : Jr))).Kind) 1)) (ine (((v23.getD (⟨0, 0, 0, 0, 0, (FS.nil : (FS Ja))⟩ : Jr))).Layer) p0.Index)) = false) => Jjj (⟨0, 0, 0, 0, 0, (FS.nil : (FS Ja))⟩ : Jr) h19 (Zj q0) (Qk (⟨0, 0, 0, 0, 0, (FS.nil : (FS Ja))⟩ : Jr) h26 (Zj r0))
           have f29 := fun (q0 : (bor (ilt (flen v13.1) 2) (ine (((v20.getD (⟨0, 0, 0, 0, 0, (FS.nil : (FS Ja))⟩ : Jr))).Kind) 1)) = false) (r0 : (bor (bor (ilt (flen v13.1) 2) (ine (((v20.getD (⟨0, 0, 0, 0, 0, (FS.nil : (FS Ja))⟩ : Jr))).Kind) 1)) (ine (((v23.getD (⟨0, 0, 0, 0, 0, (FS.nil : (FS Ja))⟩ : Jr))).Layer) p0.Index)) = false) => Jjj (⟨0, 0, 0, 0, 0, (FS.nil : (FS Ja))⟩ : Jr) h22 (Zj q0) (Qk (⟨0, 0, 0, 0, 0, (FS.nil : (FS Ja))⟩ : Jr) h26 (Zj r0))
           cases h31 : gOpt (bnot (bor (bor (bor (ilt (flen v13.1) 2) (ine (((v20.getD (⟨0, 0, 0, 0, 0, (FS.nil : (FS Ja))⟩ : Jr))).Kind) 1)) (ine (((v23.getD (⟨0, 0, 0, 0, 0, (FS.nil : (FS Ja))⟩ : Jr))).Layer) p0.Index)) (ine (((v27.getD (⟨0, 0, 0, 0, 0, (FS.nil : (FS Ja))⟩ : Jr))).Z) (imul .i64 (iadd .i64 p0.Index 1) p1.Height)))) (fget v13.1 1) with
           | none => (rw [h31] at h; cases h)
           | some v32 =>
            simp only [h31] at h
            have f30 := fun (q0 : (bor (bor (bor (ilt (flen v13.1) 2) (ine (((v20.getD (⟨0, 0, 0, 0, 0, (FS.nil : (FS Ja))⟩ : Jr))).Kind) 1)) (ine (((v23.getD (⟨0, 0, 0, 0, 0, (FS.nil : (FS Ja))⟩ : Jr))).Layer) p0.Index)) (ine (((v27.getD (⟨0, 0, 0, 0, 0, (FS.nil : (FS Ja))⟩ : Jr))).Z) (imul .i64 (iadd .i64 p0.Index 1) p1.Height))) = false) => K5 (e := Jz) (Qk (⟨0, 0, 0, 0, 0, (FS.nil : (FS Ja))⟩ : Jr) h31 (Zj q0))
            cases h34 : gOpt (bnot (bor (bor (bor (bor (ilt (flen v13.1) 2) (ine (((v20.getD (⟨0, 0, 0, 0, 0, (FS.nil : (FS Ja))⟩ : Jr))).Kind) 1)) (ine (((v23.getD (⟨0, 0, 0, 0, 0, (FS.nil : (FS Ja))⟩ : Jr))).Layer) p0.Index)) (ine (((v27.getD (⟨0, 0, 0, 0, 0, (FS.nil : (FS Ja))⟩ : Jr))).Z) (imul .i64 (iadd .i64 p0.Index 1) p1.Height))) (ine (((v32.getD (⟨0, 0, 0, 0, 0, (FS.nil : (FS Ja))⟩ : Jr))).Kind) 6))) (fget v13.1 1) with
            | none => (rw [h34] at h; cases h)
            | some v35 =>
             simp only [h34] at h
             have f33 := fun (q0 : (bor (bor (bor (bor (ilt (flen v13.1) 2) (ine (((v20.getD (⟨0, 0, 0, 0, 0, (FS.nil : (FS Ja))⟩ : Jr))).Kind) 1)) (ine (((v23.getD (⟨0, 0, 0, 0, 0, (FS.nil : (FS Ja))⟩ : Jr))).Layer) p0.Index)) (ine (((v27.getD (⟨0, 0, 0, 0, 0, (FS.nil : (FS Ja))⟩ : Jr))).Z) (imul .i64 (iadd .i64 p0.Index 1) p1.Height))) (ine (((v32.getD (⟨0, 0, 0, 0, 0, (FS.nil : (FS Ja))⟩ : Jr))).Kind) 6)) = false) => K5 (e := Jz) (Qk (⟨0, 0, 0, 0, 0, (FS.nil : (FS Ja))⟩ : Jr) h34 (Zj q0))
             have f36 := fun (q0 : (bor (bor (bor (ilt (flen v13.1) 2) (ine (((v20.getD (⟨0, 0, 0, 0, 0, (FS.nil : (FS Ja))⟩ : Jr))).Kind) 1)) (ine (((v23.getD (⟨0, 0, 0, 0, 0, (FS.nil : (FS Ja))⟩ : Jr))).Layer) p0.Index)) (ine (((v27.getD (⟨0, 0, 0, 0, 0, (FS.nil : (FS Ja))⟩ : Jr))).Z) (imul .i64 (iadd .i64 p0.Index 1) p1.Height))) = false) (r0 : (bor (bor (bor (bor (ilt (flen v13.1) 2) (ine (((v20.getD (⟨0, 0, 0, 0, 0, (FS.nil : (FS Ja))⟩ : Jr))).Kind) 1)) (ine (((v23.getD (⟨0, 0, 0, 0, 0, (FS.nil : (FS Ja))⟩ : Jr))).Layer) p0.Index)) (ine (((v27.getD (⟨0, 0, 0, 0, 0, (FS.nil : (FS Ja))⟩ : Jr))).Z) (imul .i64 (iadd .i64 p0.Index 1) p1.Height))) (ine (((v32.getD (⟨0, 0, 0, 0, 0, (FS.nil : (FS Ja))⟩ : Jr))).Kind) 6)) = false) => Jjj (⟨0, 0, 0, 0, 0, (FS.nil : (FS Ja))⟩ : Jr) h31 (Zj q0) (Qk (⟨0, 0, 0, 0, 0, (FS.nil : (FS Ja))⟩ : Jr) h34 (Zj r0))
             by_cases c37 : (bor (bor (bor (bor (bor (ilt (flen v13.1) 2) (ine (((v20.getD (⟨0, 0, 0, 0, 0, (FS.nil : (FS Ja))⟩ : Jr))).Kind) 1)) (ine (((v23.getD (⟨0, 0, 0, 0, 0, (FS.nil : (FS Ja))⟩ : Jr))).Layer) p0.Index)) (ine (((v27.getD (⟨0, 0, 0, 0, 0, (FS.nil : (FS Ja))⟩ : Jr))).Z) (imul .i64 (iadd .i64 p0.Index 1) p1.Height))) (ine (((v32.getD (⟨0, 0, 0, 0, 0, (FS.nil : (FS Ja))⟩ : Jr))).Kind) 6)) (bnot (band (beqB (ieq (((v35.getD (⟨0, 0, 0, 0, 0, (FS.nil : (FS Ja))⟩ : Jr))).Speed) 0) (ieq p0.Index 0)) true))) = true
             · rw [if_pos c37] at h
               cases h
               refine J9 (lf := lf4) rfl rfl rfl ?_
               simp only [lf4, lc4]
               rcases tof v3 with a38 | a38
               · rcases tof (v6.getD false) with a39 | a39
                 · rcases tof (ilt (flen v13.1) 2) with a40 | a40
                   · simp (maxSteps := 4000000) [a38, a39, c14, a40, f1, f4, f11, f18, f21, f25, f30, f33]
                   · rcases tof (ine (((v20.getD (⟨0, 0, 0, 0, 0, (FS.nil : (FS Ja))⟩ : Jr))).Kind) 1) with a41 | a41
                     · simp (maxSteps := 4000000) [a38, a39, c14, a40, a41, f1, f4, f11, f18, f21, f25, f30, f33]
                     · rcases tof (ine (((v23.getD (⟨0, 0, 0, 0, 0, (FS.nil : (FS Ja))⟩ : Jr))).Layer) p0.Index) with a42 | a42
                       · have gf24 := f24 (by simp [a38, a39, c14, a40, a41, a42]) (by simp [a38, a39, c14, a40, a41, a42])
                         try simp only [gf24] at f1 f4 f11 f18 f21 f25 f30 f33 a38 a39 c14 a40 a41 a42
                         simp (maxSteps := 4000000) [a38, a39, c14, a40, a41, a42, gf24, f1, f4, f11, f18, f21, f25, f30, f33]
                       · rcases tof (ine (((v27.getD (⟨0, 0, 0, 0, 0, (FS.nil : (FS Ja))⟩ : Jr))).Z) (imul .i64 (iadd .i64 p0.Index 1) p1.Height)) with a43 | a43
                         · have gf24 := f24 (by simp [a38, a39, c14, a40, a41, a42, a43]) (by simp [a38, a39, c14, a40, a41, a42, a43])
                           try simp only [gf24] at f1 f4 f11 f18 f21 f25 f30 f33 a38 a39 c14 a40 a41 a42 a43
                           have gf28 := f28 (by simp [a38, a39, c14, a40, a41, a42, a43, gf24]) (by simp [a38, a39, c14, a40, a41, a42, a43, gf24])
                           try simp only [gf28] at f1 f4 f11 f18 f21 f25 f30 f33 a38 a39 c14 a40 a41 a42 a43
                           have gf29 := f29 (by simp [a38, a39, c14, a40, a41, a42, a43, gf24, gf28]) (by simp [a38, a39, c14, a40, a41, a42, a43, gf24, gf28])
                           try simp only [gf29] at f1 f4 f11 f18 f21 f25 f30 f33 a38 a39 c14 a40 a41 a42 a43
                           simp (maxSteps := 4000000) [a38, a39, c14, a40, a41, a42, a43, gf24, gf28, gf29, f1, f4, f11, f18, f21, f25, f30, f33]
                         · rcases tof (ine (((v32.getD (⟨0, 0, 0, 0, 0, (FS.nil : (FS Ja))⟩ : Jr))).Kind) 6) with a44 | a44
                           · have gf24 := f24 (by simp [a38, a39, c14, a40, a41, a42, a43, a44]) (by simp [a38, a39, c14, a40, a41, a42, a43, a44])
                             try simp only [gf24] at f1 f4 f11 f18 f21 f25 f30 f33 a38 a39 c14 a40 a41 a42 a43 a44
                             have gf28 := f28 (by simp [a38, a39, c14, a40, a41, a42, a43, a44, gf24]) (by simp [a38, a39, c14, a40, a41, a42, a43, a44, gf24])
                             try simp only [gf28] at f1 f4 f11 f18 f21 f25 f30 f33 a38 a39 c14 a40 a41 a42 a43 a44
                             have gf29 := f29 (by simp [a38, a39, c14, a40, a41, a42, a43, a44, gf24, gf28]) (by simp [a38, a39, c14, a40, a41, a42, a43, a44, gf24, gf28])
                             try simp only [gf29] at f1 f4 f11 f18 f21 f25 f30 f33 a38 a39 c14 a40 a41 a42 a43 a44
                             simp (maxSteps := 4000000) [a38, a39, c14, a40, a41, a42, a43, a44, gf24, gf28, gf29, f1, f4, f11, f18, f21, f25, f30, f33]
                           · rcases tof (beqB (ieq (((v35.getD (⟨0, 0, 0, 0, 0, (FS.nil : (FS Ja))⟩ : Jr))).Speed) 0) (ieq p0.Index 0)) with a45 | a45
                             · simp [a38, a39, c14, a40, a41, a42, a43, a44, a45] at c37
                             · have gf24 := f24 (by simp [a38, a39, c14, a40, a41, a42, a43, a44, a45]) (by simp [a38, a39, c14, a40, a41, a42, a43, a44, a45])
                               try simp only [gf24] at f1 f4 f11 f18 f21 f25 f30 f33 a38 a39 c14 a40 a41 a42 a43 a44 a45
                               have gf28 := f28 (by simp [a38, a39, c14, a40, a41, a42, a43, a44, a45, gf24]) (by simp [a38, a39, c14, a40, a41, a42, a43, a44, a45, gf24])
                               try simp only [gf28] at f1 f4 f11 f18 f21 f25 f30 f33 a38 a39 c14 a40 a41 a42 a43 a44 a45
                               have gf29 := f29 (by simp [a38, a39, c14, a40, a41, a42, a43, a44, a45, gf24, gf28]) (by simp [a38, a39, c14, a40, a41, a42, a43, a44, a45, gf24, gf28])
                               try simp only [gf29] at f1 f4 f11 f18 f21 f25 f30 f33 a38 a39 c14 a40 a41 a42 a43 a44 a45
                               have gf36 := f36 (by simp [a38, a39, c14, a40, a41, a42, a43, a44, a45, gf24, gf28, gf29]) (by simp [a38, a39, c14, a40, a41, a42, a43, a44, a45, gf24, gf28, gf29])
                               try simp only [gf36] at f1 f4 f11 f18 f21 f25 f30 f33 a38 a39 c14 a40 a41 a42 a43 a44 a45
                               simp (maxSteps := 4000000) [a38, a39, c14, a40, a41, a42, a43, a44, a45, gf24, gf28, gf29, gf36, f1, f4, f11, f18, f21, f25, f30, f33]
                 · simp [a38, a39] at c7
               · simp [a38] at c7
             · rw [if_neg c37] at h
               rw [Bool.not_eq_true] at c37
               cases h79 : Ku (Kk p1 v13.1) bigN 2 with
               | none => (rw [h79] at h; cases h)
               | some v80 =>
                simp only [h79] at h
                have f81 := Jba h79
                cases v80 with
                | inl v80x =>
                 try simp only at h
                 simp only [Ke, Kt, J8] at f81
                 try simp only [Jj, Ji, Jm, Jw, Jt, Ju, Jv, Js] at f81
                 cases h
                 refine J9 (lf := lf4) rfl rfl rfl ?_
                 simp only [lf4, lc4]
                 rcases tof v3 with a83 | a83
                 · rcases tof (v6.getD false) with a84 | a84
                   · rcases tof (ilt (flen v13.1) 2) with a85 | a85
                     · simp [a83, a84, c14, a85] at c37
                     · rcases tof (ine (((v20.getD (⟨0, 0, 0, 0, 0, (FS.nil : (FS Ja))⟩ : Jr))).Kind) 1) with a86 | a86
                       · simp [a83, a84, c14, a85, a86] at c37
                       · rcases tof (ine (((v23.getD (⟨0, 0, 0, 0, 0, (FS.nil : (FS Ja))⟩ : Jr))).Layer) p0.Index) with a87 | a87
                         · simp [a83, a84, c14, a85, a86, a87] at c37
                         · rcases tof (ine (((v27.getD (⟨0, 0, 0, 0, 0, (FS.nil : (FS Ja))⟩ : Jr))).Z) (imul .i64 (iadd .i64 p0.Index 1) p1.Height)) with a88 | a88
                           · simp [a83, a84, c14, a85, a86, a87, a88] at c37
                           · rcases tof (ine (((v32.getD (⟨0, 0, 0, 0, 0, (FS.nil : (FS Ja))⟩ : Jr))).Kind) 6) with a89 | a89
                             · simp [a83, a84, c14, a85, a86, a87, a88, a89] at c37
                             · rcases tof (beqB (ieq (((v35.getD (⟨0, 0, 0, 0, 0, (FS.nil : (FS Ja))⟩ : Jr))).Speed) 0) (ieq p0.Index 0)) with a90 | a90
                               · have gf24 := f24 (by simp [a83, a84, c14, a85, a86, a87, a88, a89, a90]) (by simp [a83, a84, c14, a85, a86, a87, a88, a89, a90])
                                 try simp only [gf24] at f1 f4 f11 f18 f21 f25 f30 f33 f81 a83 a84 c14 a85 a86 a87 a88 a89 a90
                                 have gf28 := f28 (by simp [a83, a84, c14, a85, a86, a87, a88, a89, a90, gf24]) (by simp [a83, a84, c14, a85, a86, a87, a88, a89, a90, gf24])
                                 try simp only [gf28] at f1 f4 f11 f18 f21 f25 f30 f33 f81 a83 a84 c14 a85 a86 a87 a88 a89 a90
                                 have gf29 := f29 (by simp [a83, a84, c14, a85, a86, a87, a88, a89, a90, gf24, gf28]) (by simp [a83, a84, c14, a85, a86, a87, a88, a89, a90, gf24, gf28])
                                 try simp only [gf29] at f1 f4 f11 f18 f21 f25 f30 f33 f81 a83 a84 c14 a85 a86 a87 a88 a89 a90
                                 have gf36 := f36 (by simp [a83, a84, c14, a85, a86, a87, a88, a89, a90, gf24, gf28, gf29]) (by simp [a83, a84, c14, a85, a86, a87, a88, a89, a90, gf24, gf28, gf29])
                                 try simp only [gf36] at f1 f4 f11 f18 f21 f25 f30 f33 f81 a83 a84 c14 a85 a86 a87 a88 a89 a90
                                 try simp only [a83, a84, c14, a85, a86, a87, a88, a89, a90, gf24, gf28, gf29, gf36] at f81
                                 simp (maxSteps := 4000000) [a83, a84, c14, a85, a86, a87, a88, a89, a90, gf24, gf28, gf29, gf36, f1, f4, f11, f18, f21, f25, f30, f33, f81]
                               · simp [a83, a84, c14, a85, a86, a87, a88, a89, a90] at c37
                   · simp [a83, a84] at c7
                 · simp [a83] at c7
                | inr v80x =>
                 try simp only at h
                 simp only [Ke, Kt, J8] at f81
                 try simp only [Jj, Ji, Jm, Jw, Jt, Ju, Jv, Js] at f81
                 have f92 := Jac 
                 cases h
                 refine J9 (lf := lf4) rfl rfl rfl ?_
                 simp only [lf4, lc4]
                 rcases tof v3 with a93 | a93
                 · rcases tof (v6.getD false) with a94 | a94
                   · rcases tof (ilt (flen v13.1) 2) with a95 | a95
                     · simp [a93, a94, c14, a95] at c37
                     · rcases tof (ine (((v20.getD (⟨0, 0, 0, 0, 0, (FS.nil : (FS Ja))⟩ : Jr))).Kind) 1) with a96 | a96
                       · simp [a93, a94, c14, a95, a96] at c37
                       · rcases tof (ine (((v23.getD (⟨0, 0, 0, 0, 0, (FS.nil : (FS Ja))⟩ : Jr))).Layer) p0.Index) with a97 | a97
                         · simp [a93, a94, c14, a95, a96, a97] at c37
                         · rcases tof (ine (((v27.getD (⟨0, 0, 0, 0, 0, (FS.nil : (FS Ja))⟩ : Jr))).Z) (imul .i64 (iadd .i64 p0.Index 1) p1.Height)) with a98 | a98
                           · simp [a93, a94, c14, a95, a96, a97, a98] at c37
                           · rcases tof (ine (((v32.getD (⟨0, 0, 0, 0, 0, (FS.nil : (FS Ja))⟩ : Jr))).Kind) 6) with a99 | a99
                             · simp [a93, a94, c14, a95, a96, a97, a98, a99] at c37
                             · rcases tof (beqB (ieq (((v35.getD (⟨0, 0, 0, 0, 0, (FS.nil : (FS Ja))⟩ : Jr))).Speed) 0) (ieq p0.Index 0)) with a100 | a100
                               · have gf24 := f24 (by simp [a93, a94, c14, a95, a96, a97, a98, a99, a100]) (by simp [a93, a94, c14, a95, a96, a97, a98, a99, a100])
                                 try simp only [gf24] at f1 f4 f11 f18 f21 f25 f30 f33 f81 f92 a93 a94 c14 a95 a96 a97 a98 a99 a100
                                 have gf28 := f28 (by simp [a93, a94, c14, a95, a96, a97, a98, a99, a100, gf24]) (by simp [a93, a94, c14, a95, a96, a97, a98, a99, a100, gf24])
                                 try simp only [gf28] at f1 f4 f11 f18 f21 f25 f30 f33 f81 f92 a93 a94 c14 a95 a96 a97 a98 a99 a100
                                 have gf29 := f29 (by simp [a93, a94, c14, a95, a96, a97, a98, a99, a100, gf24, gf28]) (by simp [a93, a94, c14, a95, a96, a97, a98, a99, a100, gf24, gf28])
                                 try simp only [gf29] at f1 f4 f11 f18 f21 f25 f30 f33 f81 f92 a93 a94 c14 a95 a96 a97 a98 a99 a100
                                 have gf36 := f36 (by simp [a93, a94, c14, a95, a96, a97, a98, a99, a100, gf24, gf28, gf29]) (by simp [a93, a94, c14, a95, a96, a97, a98, a99, a100, gf24, gf28, gf29])
                                 try simp only [gf36] at f1 f4 f11 f18 f21 f25 f30 f33 f81 f92 a93 a94 c14 a95 a96 a97 a98 a99 a100
                                 try simp only [a93, a94, c14, a95, a96, a97, a98, a99, a100, gf24, gf28, gf29, gf36] at f81
                                 simp (maxSteps := 4000000) [a93, a94, c14, a95, a96, a97, a98, a99, a100, gf24, gf28, gf29, gf36, f1, f4, f11, f18, f21, f25, f30, f33, f81, f92]
                               · simp [a93, a94, c14, a95, a96, a97, a98, a99, a100] at c37
                   · simp [a93, a94] at c7
                 · simp [a93] at c7
end Go.Proofs.Ytemehoioeoohmaa
