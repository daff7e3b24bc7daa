/- Typed functions of this seat, each with the proof that the code computes it; by program (tg3.py). -/
import Derived.Test.YtemehoioeoohmaaCode
import Derived.Test.YtemehoioeoohmaaVu
import Derived.KernelRfl
import Derived.Test.YtemehoioeoohmaaTf
namespace Go.Proofs.Ytemehoioeoohmaa
open Go Go.Vv Go.Proofs
set_option linter.unusedSimpArgs false
set_option linter.unusedVariables false
set_option maxRecDepth 100000
set_option maxHeartbeats 4000000
variable (Γ : Env) (ps : List Nat) (σ : St)
attribute [simp] c10_0 c10_1 c10_2 c10_3 c10_4 c10_5 c10_7
theorem c10_L0_u : EC Γ ps 0 Jyf σ = EC Γ ps 0 (.seq (.seq (.reg false c10_2) (.cond (.t 9) .skip (.seq (.trim [0, 1]) (.exit 0)))) (.seq (.blk 1 (.seq (.reg true c10_3) (.cond (.t 24) (.seq (.reg false c10_4) (.seq (.trim [4]) .ret)) .skip))) (.reg false c10_5))) σ := rfl
attribute [simp ↓] c10_L0_u
def Zu (k0 : (FS Ja)) (k1 : (FS Ja)) (s : Int) : Option (LR Int (Bool ⊕ Unit)) := match s with
 | s0 => (if (ilt s0 (flen k0)) = true then (J3 (fget k0 s0) fun v4 => (J3 (za k0 v4) fun v7 => (J3 (za k1 v4) fun v11 => (if (ine v7 v11) = true then some (.dn (.inl false))
 else some (.nx (iadd .i64 s0 1))))))
 else some (.dn (.inr ())))
def Q4 (k0 : (FS Ja)) (k1 : (FS Ja)) (s : Int) : St := match s with
 | s0 => ⟨fr [(0, encF Je k0), (1, encF Je k1), (5, .int .i64 s0)], hl []⟩
def Xz (k0 : (FS Ja)) (k1 : (FS Ja)) (x : (Bool ⊕ Unit)) : LE × St := match x with
 | .inl x => (.ret, ⟨fr [(4, .bool x)], hl []⟩)
 | .inr x => (.exit 0, ⟨fr [(0, encF Je k0), (1, encF Je k1)], hl []⟩)
theorem Jfw {k0} {k1} {s} {r} (h : Ky (Zu k0 k1) bigN s = some r) : LK env [] 0 [0, 1, 5] Jyf (some (Q4 k0 k1 s)) = some (Xz k0 k1 r) := Kt (st := Q4 k0 k1) (out := Xz k0 k1) (by
 clear h s r
 rintro s0 x h
 simp only [Zu] at h
 rcases ifC h with ⟨c1, h⟩ | ⟨c1, h⟩
 ·obtain ⟨v4, h3, h⟩ := oS h
  have f2 := Kc (e := Je) h3
  obtain ⟨v7, h6, h⟩ := oS h
  have f5 := Jdt h6
  obtain ⟨v11, h10, h⟩ := oS h
  have f9 := Jdt h10
  rcases ifC h with ⟨c12, h⟩ | ⟨c12, h⟩
  ·cases h
   simp only [Q4, Xz]
   rw [Jn]
   simp [*]
  ·cases h
   simp only [Q4]
   rw [Jn]
   simp [*]
 ·cases h
  simp only [Q4, Xz]
  rw [Jn]
  simp [*]) bigN s r h
def Jan (p0 : (FS Ja)) (p1 : (FS Ja)) : Option Bool := (J3 (Ky (Zu p0 p1) bigN 0) fun v14 => (match v14 with
 | .inl v14x => some v14x
 | .inr v14x => some (ieq (flen p0) (flen p1))))
theorem Jg0 {p0} {p1} {r} (h : Jan p0 p1 = some r) : FC env 10 [encF Je p0, encF Je p1] none = some (.bool r, fun _ => none) := by
 unfold Jan at h
 obtain ⟨v14, h13, h⟩ := oS h
 have f15 := Jfw h13
 cases v14 with
 | inl v14x =>
  try simp only at h
  simp only [Q4, Xz, J5] at f15
  try simp only [Jj, Jk, Jq, Jv, Jt, Jx, Jw, Ju] at f15
  cases h
  refine J4 (lf := lf10) rfl rfl rfl ?_
  simp only [lf10, lc10]
  simp [*]
 | inr v14x =>
  try simp only at h
  simp only [Q4, Xz, J5] at f15
  try simp only [Jj, Jk, Jq, Jv, Jt, Jx, Jw, Ju] at f15
  cases h
  refine J4 (lf := lf10) rfl rfl rfl ?_
  simp only [lf10, lc10]
  simp [*]
attribute [simp] c3_0 c3_1 c3_2 c3_3 c3_4 c3_5 c3_6 c3_7 c3_8 c3_9 c3_10 c3_11 c3_12 c3_13 c3_14 c3_15 c3_16 c3_17 c3_18 c3_19 c3_20 c3_22
theorem c3_L0_u : EC Γ ps 0 c3_L0 σ = EC Γ ps 0 (.seq (.seq (.reg false c3_9) (.cond (.t 54) .skip (.seq (.trim [2, 5, 6, 8, 9]) (.exit 0)))) (.seq (.blk 1 (.seq (.reg false c3_10) (.seq (.seq (.reg false c3_11) (.cond (.t 68) (.reg false c3_12) .skip)) (.seq (.seq (.reg false c3_13) (.cond (.t 78) (.exit 1) .skip)) (.seq (.seq (.reg true c3_14) (.cond (.t 98) (.seq (.reg false c3_15) (.seq (.trim [4]) .ret)) .skip)) (.seq (.reg false c3_16) (.seq (.seq (.reg false c3_17) (.cond (.t 123) (.seq (.reg false c3_18) (.seq (.trim [4]) .ret)) .skip)) (.reg false c3_19)))))))) (.reg false c3_20))) σ := rfl
attribute [simp ↓] c3_L0_u
def Kd (k0 : Qe) (k1 : J6) (k2 : (FS Kj)) (k3 : Ja) (s : (Ja × Bool × Int)) : Option (LR (Ja × Bool × Int) (Bool ⊕ (Ja × Bool))) := match s with
 | (s0, s1, s2) => (if (ilt s2 (flen k2)) = true then (J3 (fget k2 s2) fun v14 => (if (bor (ieq v14.Kind 4) (ieq v14.Kind 5)) = true then (if (band (ine v14.Kind 2) (ine v14.Kind 3)) = true then some (.nx (s0, (bnot s1), (iadd .i64 s2 1)))
 else (J3 (gOpt (band (bnot (ieq (flen v14.Cells) 0)) (ieq v14.Kind 3)) (fget v14.Cells 0)) fun v19 => (if (bor (ieq (flen v14.Cells) 0) (band (ieq v14.Kind 3) (bor (bnot (band (ieq (((v19.getD (⟨0, 0⟩ : Ja))).X) s0.X) (band (ieq (((v19.getD (⟨0, 0⟩ : Ja))).Y) s0.Y) true))) (bnot s1)))) = true then some (.dn (.inl false))
 else (J3 (zs v14.Cells) fun v23 => (J3 (gOpt (band (band (ieq v14.Kind 2) (bnot (bnot s1))) (igt k1.Retract 0)) (js v23.1 k0.Region)) fun v26 => (if (band (band (band (ieq v14.Kind 2) (bnot (bnot s1))) (igt k1.Retract 0)) (bnot (v26.getD false))) = true then some (.dn (.inl false))
 else (J3 (fget v14.Cells (isub .i64 (flen v14.Cells) 1)) fun v30 => some (.nx (v30, (bnot s1), (iadd .i64 s2 1))))))))))
 else (if (band (ine v14.Kind 2) (ine v14.Kind 3)) = true then some (.nx (s0, s1, (iadd .i64 s2 1)))
 else (J3 (gOpt (band (bnot (ieq (flen v14.Cells) 0)) (ieq v14.Kind 3)) (fget v14.Cells 0)) fun v34 => (if (bor (ieq (flen v14.Cells) 0) (band (ieq v14.Kind 3) (bor (bnot (band (ieq (((v34.getD (⟨0, 0⟩ : Ja))).X) s0.X) (band (ieq (((v34.getD (⟨0, 0⟩ : Ja))).Y) s0.Y) true))) s1))) = true then some (.dn (.inl false))
 else (J3 (zs v14.Cells) fun v38 => (J3 (gOpt (band (band (ieq v14.Kind 2) (bnot s1)) (igt k1.Retract 0)) (js v38.1 k0.Region)) fun v41 => (if (band (band (band (ieq v14.Kind 2) (bnot s1)) (igt k1.Retract 0)) (bnot (v41.getD false))) = true then some (.dn (.inl false))
 else (J3 (fget v14.Cells (isub .i64 (flen v14.Cells) 1)) fun v45 => some (.nx (v45, s1, (iadd .i64 s2 1))))))))))))
 else some (.dn (.inr (s0, s1))))
def J8 (k0 : Qe) (k1 : J6) (k2 : (FS Kj)) (k3 : Ja) (s : (Ja × Bool × Int)) : St := match s with
 | (s0, s1, s2) => ⟨fr [(2, .ptr 2 0 0), (3, .ptr 3 0 0), (5, encF J2 k2), (6, .ptr 6 0 0), (8, .ptr 8 0 0), (9, .bool s1), (10, .int .i64 s2)], hl [(2, .box 0 [encF Jh k0.Tracks, encF Jg k0.Region.Rows, .int .i64 k0.Index, .int .i64 k0.From.X, .int .i64 k0.From.Y]), (3, .box 0 [.int .i64 k1.Pitch, .int .i64 k1.Height, .int .i64 k1.Walls, .int .i64 k1.Top, .int .i64 k1.Bottom, .int .i64 k1.Pattern, .int .i64 k1.Spacing, .bool k1.Support, .int .i64 k1.Reach, .int .i64 k1.Gap, .int .i64 k1.Brim, .int .i64 k1.Skirt, .int .i64 k1.Drop, .int .i64 k1.Feed, .int .i64 k1.Travel, .int .i64 k1.Retract, .int .i64 k1.MinTime, .int .i64 k1.MinFeed, .int .i64 k1.Nozzle, .int .i64 k1.Bed]), (6, .box 0 [.int .i64 k3.X, .int .i64 k3.Y]), (8, .box 0 [.int .i64 s0.X, .int .i64 s0.Y])]⟩
def Kl (k0 : Qe) (k1 : J6) (k2 : (FS Kj)) (k3 : Ja) (x : (Bool ⊕ (Ja × Bool))) : LE × St := match x with
 | .inl x => (.ret, ⟨fr [(4, .bool x)], hl []⟩)
 | .inr x => (.exit 0, ⟨fr [(2, .ptr 2 0 0), (5, encF J2 k2), (6, .ptr 6 0 0), (8, .ptr 8 0 0), (9, .bool x.2)], hl [(2, .box 0 [encF Jh k0.Tracks, encF Jg k0.Region.Rows, .int .i64 k0.Index, .int .i64 k0.From.X, .int .i64 k0.From.Y]), (6, .box 0 [.int .i64 k3.X, .int .i64 k3.Y]), (8, .box 0 [.int .i64 x.1.X, .int .i64 x.1.Y])]⟩)
theorem Jc8 {k0} {k1} {k2} {k3} {s} {r} (h : Ky (Kd k0 k1 k2 k3) bigN s = some r) : LK env [] 0 [2, 3, 5, 6, 8, 9, 10] c3_L0 (some (J8 k0 k1 k2 k3 s)) = some (Kl k0 k1 k2 k3 r) := Kt (st := J8 k0 k1 k2 k3) (out := Kl k0 k1 k2 k3) (by
 clear h s r
 rintro ⟨s0, s1, s2⟩ x h
 simp only [Kd] at h
 rcases ifC h with ⟨c17, h⟩ | ⟨c17, h⟩
 ·obtain ⟨v20, h19, h⟩ := oS h
  have f18 := Kc (e := J2) h19
  rcases ifC h with ⟨c21, h⟩ | ⟨c21, h⟩
  ·rcases ifC h with ⟨c22, h⟩ | ⟨c22, h⟩
   ·cases h
    simp only [J8]
    rw [Jn]
    rcases tof (ieq v20.Kind 4) with a23 | a23 <;> rcases tof (ine v20.Kind 2) with a24 | a24 <;> rcases tof (ine v20.Kind 3) with a25 | a25 <;> rcases tof (ieq v20.Kind 5) with a26 | a26 <;> (try (simp [c17, a23, a24, a25, a26] at c22 c21; done)) <;> simp [*]
   ·obtain ⟨v29, h28, h⟩ := oS h
    have f27 := fun (q0 : (ieq (flen v20.Cells) 0) = false) (q1 : (ieq v20.Kind 3) = true) => Kc (e := Je) (Kb (⟨0, 0⟩ : Ja) h28 (z6 (Qo q0) q1))
    rcases ifC h with ⟨c30, h⟩ | ⟨c30, h⟩
    ·cases h
     simp only [J8, Kl]
     rw [Jn]
     rcases tof (ieq v20.Kind 4) with a31 | a31
     ·rcases tof (ine v20.Kind 2) with a32 | a32
      ·rcases tof (ine v20.Kind 3) with a33 | a33
       ·simp [c17, a31, a32, a33] at c22
       ·rcases tof (ieq (flen v20.Cells) 0) with a34 | a34
        ·simp [*]
        ·rcases tof (ieq v20.Kind 3) with a35 | a35
         ·rcases tof (ieq (((v29.getD (⟨0, 0⟩ : Ja))).X) s0.X) with a36 | a36
          ·rcases tof (ieq (((v29.getD (⟨0, 0⟩ : Ja))).Y) s0.Y) with a37 | a37
           ·rcases tof s1 with a38 | a38
            ·simp [c17, a31, a32, a33, a34, a35, a36, a37, a38] at c30
            ·simp [*]
           ·simp [*]
          ·simp [*]
         ·simp [c17, a31, a32, a33, a34, a35] at c30
      ·rcases tof (ieq (flen v20.Cells) 0) with a39 | a39
       ·simp [*]
       ·rcases tof (ieq v20.Kind 3) with a40 | a40
        ·rcases tof (ieq (((v29.getD (⟨0, 0⟩ : Ja))).X) s0.X) with a41 | a41
         ·rcases tof (ieq (((v29.getD (⟨0, 0⟩ : Ja))).Y) s0.Y) with a42 | a42
          ·rcases tof s1 with a43 | a43
           ·simp [c17, a31, a32, a39, a40, a41, a42, a43] at c30
           ·simp [*]
          ·simp [*]
         ·simp [*]
        ·simp [c17, a31, a32, a39, a40] at c30
     ·rcases tof (ieq v20.Kind 5) with a44 | a44
      ·rcases tof (ine v20.Kind 2) with a45 | a45
       ·rcases tof (ine v20.Kind 3) with a46 | a46
        ·simp [c17, a31, a44, a45, a46] at c22
        ·rcases tof (ieq (flen v20.Cells) 0) with a47 | a47
         ·simp [*]
         ·rcases tof (ieq v20.Kind 3) with a48 | a48
          ·rcases tof (ieq (((v29.getD (⟨0, 0⟩ : Ja))).X) s0.X) with a49 | a49
           ·rcases tof (ieq (((v29.getD (⟨0, 0⟩ : Ja))).Y) s0.Y) with a50 | a50
            ·rcases tof s1 with a51 | a51
             ·simp [c17, a31, a44, a45, a46, a47, a48, a49, a50, a51] at c30
             ·simp [*]
            ·simp [*]
           ·simp [*]
          ·simp [c17, a31, a44, a45, a46, a47, a48] at c30
       ·rcases tof (ieq (flen v20.Cells) 0) with a52 | a52
        ·simp [*]
        ·rcases tof (ieq v20.Kind 3) with a53 | a53
         ·rcases tof (ieq (((v29.getD (⟨0, 0⟩ : Ja))).X) s0.X) with a54 | a54
          ·rcases tof (ieq (((v29.getD (⟨0, 0⟩ : Ja))).Y) s0.Y) with a55 | a55
           ·rcases tof s1 with a56 | a56
            ·simp [c17, a31, a44, a45, a52, a53, a54, a55, a56] at c30
            ·simp [*]
           ·simp [*]
          ·simp [*]
         ·simp [c17, a31, a44, a45, a52, a53] at c30
      ·simp [c17, a31, a44] at c21
    ·obtain ⟨v59, h58, h⟩ := oS h
     have f57 := Jep h58
     obtain ⟨v62, h61, h⟩ := oS h
     have f60 := fun (q0 : (band (band (ieq v20.Kind 2) (bnot (bnot s1))) (igt k1.Retract 0)) = true) => Jdj (Kb false h61 q0)
     rcases ifC h with ⟨c63, h⟩ | ⟨c63, h⟩
     ·cases h
      simp only [J8, Kl]
      rw [Jn]
      rcases tof (ieq v20.Kind 4) with a64 | a64
      ·rcases tof (ine v20.Kind 2) with a65 | a65
       ·rcases tof (ine v20.Kind 3) with a66 | a66
        ·simp [c17, a64, a65, a66] at c22
        ·rcases tof (ieq (flen v20.Cells) 0) with a67 | a67
         ·simp [c17, a64, a65, a66, a67] at c30
         ·rcases tof (ieq v20.Kind 3) with a68 | a68
          ·rcases tof (ieq (((v29.getD (⟨0, 0⟩ : Ja))).X) s0.X) with a69 | a69
           ·rcases tof (ieq (((v29.getD (⟨0, 0⟩ : Ja))).Y) s0.Y) with a70 | a70
            ·rcases tof s1 with a71 | a71
             ·rcases tof (ieq v20.Kind 2) with a72 | a72
              ·rcases tof (igt k1.Retract 0) with a73 | a73
               ·rcases tof (v62.getD false) with a74 | a74
                ·simp [c17, a64, a65, a66, a67, a68, a69, a70, a71, a72, a73, a74] at c63
                ·simp [*]
               ·simp [c17, a64, a65, a66, a67, a68, a69, a70, a71, a72, a73] at c63
              ·simp [c17, a64, a65, a66, a67, a68, a69, a70, a71, a72] at c63
             ·simp [c17, a64, a65, a66, a67, a68, a69, a70, a71] at c30
            ·simp [c17, a64, a65, a66, a67, a68, a69, a70] at c30
           ·simp [c17, a64, a65, a66, a67, a68, a69] at c30
          ·rcases tof (ieq v20.Kind 2) with a75 | a75
           ·rcases tof s1 with a76 | a76
            ·rcases tof (igt k1.Retract 0) with a77 | a77
             ·rcases tof (v62.getD false) with a78 | a78
              ·simp [c17, a64, a65, a66, a67, a68, a75, a76, a77, a78] at c63
              ·simp [*]
             ·simp [c17, a64, a65, a66, a67, a68, a75, a76, a77] at c63
            ·simp [c17, a64, a65, a66, a67, a68, a75, a76] at c63
           ·simp [c17, a64, a65, a66, a67, a68, a75] at c63
       ·rcases tof (ieq (flen v20.Cells) 0) with a79 | a79
        ·simp [c17, a64, a65, a79] at c30
        ·rcases tof (ieq v20.Kind 3) with a80 | a80
         ·rcases tof (ieq (((v29.getD (⟨0, 0⟩ : Ja))).X) s0.X) with a81 | a81
          ·rcases tof (ieq (((v29.getD (⟨0, 0⟩ : Ja))).Y) s0.Y) with a82 | a82
           ·rcases tof s1 with a83 | a83
            ·rcases tof (ieq v20.Kind 2) with a84 | a84
             ·rcases tof (igt k1.Retract 0) with a85 | a85
              ·rcases tof (v62.getD false) with a86 | a86
               ·simp [c17, a64, a65, a79, a80, a81, a82, a83, a84, a85, a86] at c63
               ·simp [*]
              ·simp [c17, a64, a65, a79, a80, a81, a82, a83, a84, a85] at c63
             ·simp [c17, a64, a65, a79, a80, a81, a82, a83, a84] at c63
            ·simp [c17, a64, a65, a79, a80, a81, a82, a83] at c30
           ·simp [c17, a64, a65, a79, a80, a81, a82] at c30
          ·simp [c17, a64, a65, a79, a80, a81] at c30
         ·rcases tof (ieq v20.Kind 2) with a87 | a87
          ·rcases tof s1 with a88 | a88
           ·rcases tof (igt k1.Retract 0) with a89 | a89
            ·rcases tof (v62.getD false) with a90 | a90
             ·simp [c17, a64, a65, a79, a80, a87, a88, a89, a90] at c63
             ·simp [*]
            ·simp [c17, a64, a65, a79, a80, a87, a88, a89] at c63
           ·simp [c17, a64, a65, a79, a80, a87, a88] at c63
          ·simp [c17, a64, a65, a79, a80, a87] at c63
      ·rcases tof (ieq v20.Kind 5) with a91 | a91
       ·rcases tof (ine v20.Kind 2) with a92 | a92
        ·rcases tof (ine v20.Kind 3) with a93 | a93
         ·simp [c17, a64, a91, a92, a93] at c22
         ·rcases tof (ieq (flen v20.Cells) 0) with a94 | a94
          ·simp [c17, a64, a91, a92, a93, a94] at c30
          ·rcases tof (ieq v20.Kind 3) with a95 | a95
           ·rcases tof (ieq (((v29.getD (⟨0, 0⟩ : Ja))).X) s0.X) with a96 | a96
            ·rcases tof (ieq (((v29.getD (⟨0, 0⟩ : Ja))).Y) s0.Y) with a97 | a97
             ·rcases tof s1 with a98 | a98
              ·rcases tof (ieq v20.Kind 2) with a99 | a99
               ·rcases tof (igt k1.Retract 0) with a100 | a100
                ·rcases tof (v62.getD false) with a101 | a101
                 ·simp [c17, a64, a91, a92, a93, a94, a95, a96, a97, a98, a99, a100, a101] at c63
                 ·simp [*]
                ·simp [c17, a64, a91, a92, a93, a94, a95, a96, a97, a98, a99, a100] at c63
               ·simp [c17, a64, a91, a92, a93, a94, a95, a96, a97, a98, a99] at c63
              ·simp [c17, a64, a91, a92, a93, a94, a95, a96, a97, a98] at c30
             ·simp [c17, a64, a91, a92, a93, a94, a95, a96, a97] at c30
            ·simp [c17, a64, a91, a92, a93, a94, a95, a96] at c30
           ·rcases tof (ieq v20.Kind 2) with a102 | a102
            ·rcases tof s1 with a103 | a103
             ·rcases tof (igt k1.Retract 0) with a104 | a104
              ·rcases tof (v62.getD false) with a105 | a105
               ·simp [c17, a64, a91, a92, a93, a94, a95, a102, a103, a104, a105] at c63
               ·simp [*]
              ·simp [c17, a64, a91, a92, a93, a94, a95, a102, a103, a104] at c63
             ·simp [c17, a64, a91, a92, a93, a94, a95, a102, a103] at c63
            ·simp [c17, a64, a91, a92, a93, a94, a95, a102] at c63
        ·rcases tof (ieq (flen v20.Cells) 0) with a106 | a106
         ·simp [c17, a64, a91, a92, a106] at c30
         ·rcases tof (ieq v20.Kind 3) with a107 | a107
          ·rcases tof (ieq (((v29.getD (⟨0, 0⟩ : Ja))).X) s0.X) with a108 | a108
           ·rcases tof (ieq (((v29.getD (⟨0, 0⟩ : Ja))).Y) s0.Y) with a109 | a109
            ·rcases tof s1 with a110 | a110
             ·rcases tof (ieq v20.Kind 2) with a111 | a111
              ·rcases tof (igt k1.Retract 0) with a112 | a112
               ·rcases tof (v62.getD false) with a113 | a113
                ·simp [c17, a64, a91, a92, a106, a107, a108, a109, a110, a111, a112, a113] at c63
                ·simp [*]
               ·simp [c17, a64, a91, a92, a106, a107, a108, a109, a110, a111, a112] at c63
              ·simp [c17, a64, a91, a92, a106, a107, a108, a109, a110, a111] at c63
             ·simp [c17, a64, a91, a92, a106, a107, a108, a109, a110] at c30
            ·simp [c17, a64, a91, a92, a106, a107, a108, a109] at c30
           ·simp [c17, a64, a91, a92, a106, a107, a108] at c30
          ·rcases tof (ieq v20.Kind 2) with a114 | a114
           ·rcases tof s1 with a115 | a115
            ·rcases tof (igt k1.Retract 0) with a116 | a116
             ·rcases tof (v62.getD false) with a117 | a117
              ·simp [c17, a64, a91, a92, a106, a107, a114, a115, a116, a117] at c63
              ·simp [*]
             ·simp [c17, a64, a91, a92, a106, a107, a114, a115, a116] at c63
            ·simp [c17, a64, a91, a92, a106, a107, a114, a115] at c63
           ·simp [c17, a64, a91, a92, a106, a107, a114] at c63
       ·simp [c17, a64, a91] at c21
     ·obtain ⟨v120, h119, h⟩ := oS h
      have f118 := Kc (e := Je) h119
      cases h
      simp only [J8]
      rw [Jn]
      rcases tof (ieq v20.Kind 4) with a121 | a121
      ·rcases tof (ine v20.Kind 2) with a122 | a122
       ·rcases tof (ine v20.Kind 3) with a123 | a123
        ·simp [c17, a121, a122, a123] at c22
        ·rcases tof (ieq (flen v20.Cells) 0) with a124 | a124
         ·simp [c17, a121, a122, a123, a124] at c30
         ·rcases tof (ieq v20.Kind 3) with a125 | a125
          ·rcases tof (ieq (((v29.getD (⟨0, 0⟩ : Ja))).X) s0.X) with a126 | a126
           ·rcases tof (ieq (((v29.getD (⟨0, 0⟩ : Ja))).Y) s0.Y) with a127 | a127
            ·rcases tof s1 with a128 | a128
             ·rcases tof (ieq v20.Kind 2) with a129 | a129
              ·rcases tof (igt k1.Retract 0) with a130 | a130
               ·rcases tof (v62.getD false) with a131 | a131
                ·simp [*]
                ·simp [c17, a121, a122, a123, a124, a125, a126, a127, a128, a129, a130, a131] at c63
               ·simp [*]
              ·simp [*]
             ·simp [c17, a121, a122, a123, a124, a125, a126, a127, a128] at c30
            ·simp [c17, a121, a122, a123, a124, a125, a126, a127] at c30
           ·simp [c17, a121, a122, a123, a124, a125, a126] at c30
          ·rcases tof (ieq v20.Kind 2) with a132 | a132
           ·rcases tof s1 with a133 | a133
            ·rcases tof (igt k1.Retract 0) with a134 | a134
             ·rcases tof (v62.getD false) with a135 | a135
              ·simp [*]
              ·simp [c17, a121, a122, a123, a124, a125, a132, a133, a134, a135] at c63
             ·simp [*]
            ·simp [*]
           ·simp [*]
       ·rcases tof (ieq (flen v20.Cells) 0) with a136 | a136
        ·simp [c17, a121, a122, a136] at c30
        ·rcases tof (ieq v20.Kind 3) with a137 | a137
         ·rcases tof (ieq (((v29.getD (⟨0, 0⟩ : Ja))).X) s0.X) with a138 | a138
          ·rcases tof (ieq (((v29.getD (⟨0, 0⟩ : Ja))).Y) s0.Y) with a139 | a139
           ·rcases tof s1 with a140 | a140
            ·rcases tof (ieq v20.Kind 2) with a141 | a141
             ·rcases tof (igt k1.Retract 0) with a142 | a142
              ·rcases tof (v62.getD false) with a143 | a143
               ·simp [*]
               ·simp [c17, a121, a122, a136, a137, a138, a139, a140, a141, a142, a143] at c63
              ·simp [*]
             ·simp [*]
            ·simp [c17, a121, a122, a136, a137, a138, a139, a140] at c30
           ·simp [c17, a121, a122, a136, a137, a138, a139] at c30
          ·simp [c17, a121, a122, a136, a137, a138] at c30
         ·rcases tof (ieq v20.Kind 2) with a144 | a144
          ·rcases tof s1 with a145 | a145
           ·rcases tof (igt k1.Retract 0) with a146 | a146
            ·rcases tof (v62.getD false) with a147 | a147
             ·simp [*]
             ·simp [c17, a121, a122, a136, a137, a144, a145, a146, a147] at c63
            ·simp [*]
           ·simp [*]
          ·simp [*]
      ·rcases tof (ieq v20.Kind 5) with a148 | a148
       ·rcases tof (ine v20.Kind 2) with a149 | a149
        ·rcases tof (ine v20.Kind 3) with a150 | a150
         ·simp [c17, a121, a148, a149, a150] at c22
         ·rcases tof (ieq (flen v20.Cells) 0) with a151 | a151
          ·simp [c17, a121, a148, a149, a150, a151] at c30
          ·rcases tof (ieq v20.Kind 3) with a152 | a152
           ·rcases tof (ieq (((v29.getD (⟨0, 0⟩ : Ja))).X) s0.X) with a153 | a153
            ·rcases tof (ieq (((v29.getD (⟨0, 0⟩ : Ja))).Y) s0.Y) with a154 | a154
             ·rcases tof s1 with a155 | a155
              ·rcases tof (ieq v20.Kind 2) with a156 | a156
               ·rcases tof (igt k1.Retract 0) with a157 | a157
                ·rcases tof (v62.getD false) with a158 | a158
                 ·simp [*]
                 ·simp [c17, a121, a148, a149, a150, a151, a152, a153, a154, a155, a156, a157, a158] at c63
                ·simp [*]
               ·simp [*]
              ·simp [c17, a121, a148, a149, a150, a151, a152, a153, a154, a155] at c30
             ·simp [c17, a121, a148, a149, a150, a151, a152, a153, a154] at c30
            ·simp [c17, a121, a148, a149, a150, a151, a152, a153] at c30
           ·rcases tof (ieq v20.Kind 2) with a159 | a159
            ·rcases tof s1 with a160 | a160
             ·rcases tof (igt k1.Retract 0) with a161 | a161
              ·rcases tof (v62.getD false) with a162 | a162
               ·simp [*]
               ·simp [c17, a121, a148, a149, a150, a151, a152, a159, a160, a161, a162] at c63
              ·simp [*]
             ·simp [*]
            ·simp [*]
        ·rcases tof (ieq (flen v20.Cells) 0) with a163 | a163
         ·simp [c17, a121, a148, a149, a163] at c30
         ·rcases tof (ieq v20.Kind 3) with a164 | a164
          ·rcases tof (ieq (((v29.getD (⟨0, 0⟩ : Ja))).X) s0.X) with a165 | a165
           ·rcases tof (ieq (((v29.getD (⟨0, 0⟩ : Ja))).Y) s0.Y) with a166 | a166
            ·rcases tof s1 with a167 | a167
             ·rcases tof (ieq v20.Kind 2) with a168 | a168
              ·rcases tof (igt k1.Retract 0) with a169 | a169
               ·rcases tof (v62.getD false) with a170 | a170
                ·simp [*]
                ·simp [c17, a121, a148, a149, a163, a164, a165, a166, a167, a168, a169, a170] at c63
               ·simp [*]
              ·simp [*]
             ·simp [c17, a121, a148, a149, a163, a164, a165, a166, a167] at c30
            ·simp [c17, a121, a148, a149, a163, a164, a165, a166] at c30
           ·simp [c17, a121, a148, a149, a163, a164, a165] at c30
          ·rcases tof (ieq v20.Kind 2) with a171 | a171
           ·rcases tof s1 with a172 | a172
            ·rcases tof (igt k1.Retract 0) with a173 | a173
             ·rcases tof (v62.getD false) with a174 | a174
              ·simp [*]
              ·simp [c17, a121, a148, a149, a163, a164, a171, a172, a173, a174] at c63
             ·simp [*]
            ·simp [*]
           ·simp [*]
       ·simp [c17, a121, a148] at c21
  ·rcases ifC h with ⟨c175, h⟩ | ⟨c175, h⟩
   ·cases h
    simp only [J8]
    rw [Jn]
    rcases tof (ieq v20.Kind 4) with a176 | a176 <;> rcases tof (ieq v20.Kind 5) with a177 | a177 <;> rcases tof (ine v20.Kind 2) with a178 | a178 <;> rcases tof (ine v20.Kind 3) with a179 | a179 <;> (try (simp [c17, a176, a177, a178, a179] at c21 c175; done)) <;> simp [*]
   ·obtain ⟨v182, h181, h⟩ := oS h
    have f180 := fun (q0 : (ieq (flen v20.Cells) 0) = false) (q1 : (ieq v20.Kind 3) = true) => Kc (e := Je) (Kb (⟨0, 0⟩ : Ja) h181 (z6 (Qo q0) q1))
    rcases ifC h with ⟨c183, h⟩ | ⟨c183, h⟩
    ·cases h
     simp only [J8, Kl]
     rw [Jn]
     rcases tof (ieq v20.Kind 4) with a184 | a184
     ·simp [c17, a184] at c21
     ·rcases tof (ieq v20.Kind 5) with a185 | a185
      ·simp [c17, a184, a185] at c21
      ·rcases tof (ine v20.Kind 2) with a186 | a186
       ·rcases tof (ine v20.Kind 3) with a187 | a187
        ·simp [c17, a184, a185, a186, a187] at c175
        ·rcases tof (ieq (flen v20.Cells) 0) with a188 | a188
         ·simp [*]
         ·rcases tof (ieq v20.Kind 3) with a189 | a189
          ·rcases tof (ieq (((v182.getD (⟨0, 0⟩ : Ja))).X) s0.X) with a190 | a190
           ·rcases tof (ieq (((v182.getD (⟨0, 0⟩ : Ja))).Y) s0.Y) with a191 | a191
            ·rcases tof s1 with a192 | a192
             ·simp [*]
             ·simp [c17, a184, a185, a186, a187, a188, a189, a190, a191, a192] at c183
            ·simp [*]
           ·simp [*]
          ·simp [c17, a184, a185, a186, a187, a188, a189] at c183
       ·rcases tof (ieq (flen v20.Cells) 0) with a193 | a193
        ·simp [*]
        ·rcases tof (ieq v20.Kind 3) with a194 | a194
         ·rcases tof (ieq (((v182.getD (⟨0, 0⟩ : Ja))).X) s0.X) with a195 | a195
          ·rcases tof (ieq (((v182.getD (⟨0, 0⟩ : Ja))).Y) s0.Y) with a196 | a196
           ·rcases tof s1 with a197 | a197
            ·simp [*]
            ·simp [c17, a184, a185, a186, a193, a194, a195, a196, a197] at c183
           ·simp [*]
          ·simp [*]
         ·simp [c17, a184, a185, a186, a193, a194] at c183
    ·obtain ⟨v200, h199, h⟩ := oS h
     have f198 := Jep h199
     obtain ⟨v203, h202, h⟩ := oS h
     have f201 := fun (q0 : (band (band (ieq v20.Kind 2) (bnot s1)) (igt k1.Retract 0)) = true) => Jdj (Kb false h202 q0)
     rcases ifC h with ⟨c204, h⟩ | ⟨c204, h⟩
     ·cases h
      simp only [J8, Kl]
      rw [Jn]
      rcases tof (ieq v20.Kind 4) with a205 | a205
      ·simp [c17, a205] at c21
      ·rcases tof (ieq v20.Kind 5) with a206 | a206
       ·simp [c17, a205, a206] at c21
       ·rcases tof (ine v20.Kind 2) with a207 | a207
        ·rcases tof (ine v20.Kind 3) with a208 | a208
         ·simp [c17, a205, a206, a207, a208] at c175
         ·rcases tof (ieq (flen v20.Cells) 0) with a209 | a209
          ·simp [c17, a205, a206, a207, a208, a209] at c183
          ·rcases tof (ieq v20.Kind 3) with a210 | a210
           ·rcases tof (ieq (((v182.getD (⟨0, 0⟩ : Ja))).X) s0.X) with a211 | a211
            ·rcases tof (ieq (((v182.getD (⟨0, 0⟩ : Ja))).Y) s0.Y) with a212 | a212
             ·rcases tof s1 with a213 | a213
              ·simp [c17, a205, a206, a207, a208, a209, a210, a211, a212, a213] at c183
              ·rcases tof (ieq v20.Kind 2) with a214 | a214
               ·rcases tof (igt k1.Retract 0) with a215 | a215
                ·rcases tof (v203.getD false) with a216 | a216
                 ·simp [c17, a205, a206, a207, a208, a209, a210, a211, a212, a213, a214, a215, a216] at c204
                 ·simp [*]
                ·simp [c17, a205, a206, a207, a208, a209, a210, a211, a212, a213, a214, a215] at c204
               ·simp [c17, a205, a206, a207, a208, a209, a210, a211, a212, a213, a214] at c204
             ·simp [c17, a205, a206, a207, a208, a209, a210, a211, a212] at c183
            ·simp [c17, a205, a206, a207, a208, a209, a210, a211] at c183
           ·rcases tof (ieq v20.Kind 2) with a217 | a217
            ·rcases tof s1 with a218 | a218
             ·simp [c17, a205, a206, a207, a208, a209, a210, a217, a218] at c204
             ·rcases tof (igt k1.Retract 0) with a219 | a219
              ·rcases tof (v203.getD false) with a220 | a220
               ·simp [c17, a205, a206, a207, a208, a209, a210, a217, a218, a219, a220] at c204
               ·simp [*]
              ·simp [c17, a205, a206, a207, a208, a209, a210, a217, a218, a219] at c204
            ·simp [c17, a205, a206, a207, a208, a209, a210, a217] at c204
        ·rcases tof (ieq (flen v20.Cells) 0) with a221 | a221
         ·simp [c17, a205, a206, a207, a221] at c183
         ·rcases tof (ieq v20.Kind 3) with a222 | a222
          ·rcases tof (ieq (((v182.getD (⟨0, 0⟩ : Ja))).X) s0.X) with a223 | a223
           ·rcases tof (ieq (((v182.getD (⟨0, 0⟩ : Ja))).Y) s0.Y) with a224 | a224
            ·rcases tof s1 with a225 | a225
             ·simp [c17, a205, a206, a207, a221, a222, a223, a224, a225] at c183
             ·rcases tof (ieq v20.Kind 2) with a226 | a226
              ·rcases tof (igt k1.Retract 0) with a227 | a227
               ·rcases tof (v203.getD false) with a228 | a228
                ·simp [c17, a205, a206, a207, a221, a222, a223, a224, a225, a226, a227, a228] at c204
                ·simp [*]
               ·simp [c17, a205, a206, a207, a221, a222, a223, a224, a225, a226, a227] at c204
              ·simp [c17, a205, a206, a207, a221, a222, a223, a224, a225, a226] at c204
            ·simp [c17, a205, a206, a207, a221, a222, a223, a224] at c183
           ·simp [c17, a205, a206, a207, a221, a222, a223] at c183
          ·rcases tof (ieq v20.Kind 2) with a229 | a229
           ·rcases tof s1 with a230 | a230
            ·simp [c17, a205, a206, a207, a221, a222, a229, a230] at c204
            ·rcases tof (igt k1.Retract 0) with a231 | a231
             ·rcases tof (v203.getD false) with a232 | a232
              ·simp [c17, a205, a206, a207, a221, a222, a229, a230, a231, a232] at c204
              ·simp [*]
             ·simp [c17, a205, a206, a207, a221, a222, a229, a230, a231] at c204
           ·simp [c17, a205, a206, a207, a221, a222, a229] at c204
     ·obtain ⟨v235, h234, h⟩ := oS h
      have f233 := Kc (e := Je) h234
      cases h
      simp only [J8]
      rw [Jn]
      rcases tof (ieq v20.Kind 4) with a236 | a236
      ·simp [c17, a236] at c21
      ·rcases tof (ieq v20.Kind 5) with a237 | a237
       ·simp [c17, a236, a237] at c21
       ·rcases tof (ine v20.Kind 2) with a238 | a238
        ·rcases tof (ine v20.Kind 3) with a239 | a239
         ·simp [c17, a236, a237, a238, a239] at c175
         ·rcases tof (ieq (flen v20.Cells) 0) with a240 | a240
          ·simp [c17, a236, a237, a238, a239, a240] at c183
          ·rcases tof (ieq v20.Kind 3) with a241 | a241
           ·rcases tof (ieq (((v182.getD (⟨0, 0⟩ : Ja))).X) s0.X) with a242 | a242
            ·rcases tof (ieq (((v182.getD (⟨0, 0⟩ : Ja))).Y) s0.Y) with a243 | a243
             ·rcases tof s1 with a244 | a244
              ·simp [c17, a236, a237, a238, a239, a240, a241, a242, a243, a244] at c183
              ·rcases tof (ieq v20.Kind 2) with a245 | a245
               ·rcases tof (igt k1.Retract 0) with a246 | a246
                ·rcases tof (v203.getD false) with a247 | a247
                 ·simp [*]
                 ·simp [c17, a236, a237, a238, a239, a240, a241, a242, a243, a244, a245, a246, a247] at c204
                ·simp [*]
               ·simp [*]
             ·simp [c17, a236, a237, a238, a239, a240, a241, a242, a243] at c183
            ·simp [c17, a236, a237, a238, a239, a240, a241, a242] at c183
           ·rcases tof (ieq v20.Kind 2) with a248 | a248
            ·rcases tof s1 with a249 | a249
             ·simp [*]
             ·rcases tof (igt k1.Retract 0) with a250 | a250
              ·rcases tof (v203.getD false) with a251 | a251
               ·simp [*]
               ·simp [c17, a236, a237, a238, a239, a240, a241, a248, a249, a250, a251] at c204
              ·simp [*]
            ·simp [*]
        ·rcases tof (ieq (flen v20.Cells) 0) with a252 | a252
         ·simp [c17, a236, a237, a238, a252] at c183
         ·rcases tof (ieq v20.Kind 3) with a253 | a253
          ·rcases tof (ieq (((v182.getD (⟨0, 0⟩ : Ja))).X) s0.X) with a254 | a254
           ·rcases tof (ieq (((v182.getD (⟨0, 0⟩ : Ja))).Y) s0.Y) with a255 | a255
            ·rcases tof s1 with a256 | a256
             ·simp [c17, a236, a237, a238, a252, a253, a254, a255, a256] at c183
             ·rcases tof (ieq v20.Kind 2) with a257 | a257
              ·rcases tof (igt k1.Retract 0) with a258 | a258
               ·rcases tof (v203.getD false) with a259 | a259
                ·simp [*]
                ·simp [c17, a236, a237, a238, a252, a253, a254, a255, a256, a257, a258, a259] at c204
               ·simp [*]
              ·simp [*]
            ·simp [c17, a236, a237, a238, a252, a253, a254, a255] at c183
           ·simp [c17, a236, a237, a238, a252, a253, a254] at c183
          ·rcases tof (ieq v20.Kind 2) with a260 | a260
           ·rcases tof s1 with a261 | a261
            ·simp [*]
            ·rcases tof (igt k1.Retract 0) with a262 | a262
             ·rcases tof (v203.getD false) with a263 | a263
              ·simp [*]
              ·simp [c17, a236, a237, a238, a252, a253, a260, a261, a262, a263] at c204
             ·simp [*]
           ·simp [*]
 ·cases h
  simp only [J8, Kl]
  rw [Jn]
  simp [*]) bigN s r h
def Zz (p0 : Qe) (p1 : J6) : Option Bool := (J3 (Jbd p0) fun v3 => (if (bnot v3) = true then some Jbp
 else (J3 (Jbh p0.Tracks p0.Region p0.Index p0.From p1) fun v8 => (if (ine v8.2.2 0) = true then some (band (band (band (ieq v8.2.2 1) (ieq (flen v8.1) 0)) (band (ieq v8.2.1.X 0) (band (ieq v8.2.1.Y 0) true))) Jbp)
 else (J3 (Ky (Kd p0 p1 v8.1 v8.2.1) bigN (p0.From, false, 0)) fun v47 => (match v47 with
 | .inl v47x => some v47x
 | .inr v47x => (J3 (gOpt (band (bnot v47x.2) (band (ieq v47x.1.X v8.2.1.X) (band (ieq v47x.1.Y v8.2.1.Y) true))) (z9 v8.1)) fun v51 => (J3 (gOpt (band (bnot v47x.2) (band (ieq v47x.1.X v8.2.1.X) (band (ieq v47x.1.Y v8.2.1.Y) true))) (zi (v51.getD (FS.nil : (FS Jd))))) fun v54 => (J3 (gOpt (band (bnot v47x.2) (band (ieq v47x.1.X v8.2.1.X) (band (ieq v47x.1.Y v8.2.1.Y) true))) (zi p0.Tracks)) fun v57 => (J3 (gOpt (band (bnot v47x.2) (band (ieq v47x.1.X v8.2.1.X) (band (ieq v47x.1.Y v8.2.1.Y) true))) (Jan (v54.getD (FS.nil : (FS Ja))) (v57.getD (FS.nil : (FS Ja))))) fun v60 => some (band (band (band (bnot v47x.2) (band (ieq v47x.1.X v8.2.1.X) (band (ieq v47x.1.Y v8.2.1.Y) true))) (v60.getD false)) Jbp)))))))))))
theorem Jdn {p0} {p1} {r} (h : Zz p0 p1 = some r) : FC env 3 [.agg [encF Jh p0.Tracks, encF Jg p0.Region.Rows, .int .i64 p0.Index, .int .i64 p0.From.X, .int .i64 p0.From.Y], .agg [.int .i64 p1.Pitch, .int .i64 p1.Height, .int .i64 p1.Walls, .int .i64 p1.Top, .int .i64 p1.Bottom, .int .i64 p1.Pattern, .int .i64 p1.Spacing, .bool p1.Support, .int .i64 p1.Reach, .int .i64 p1.Gap, .int .i64 p1.Brim, .int .i64 p1.Skirt, .int .i64 p1.Drop, .int .i64 p1.Feed, .int .i64 p1.Travel, .int .i64 p1.Retract, .int .i64 p1.MinTime, .int .i64 p1.MinFeed, .int .i64 p1.Nozzle, .int .i64 p1.Bed]] none = some (.bool r, fun _ => none) := by
 unfold Zz at h
 obtain ⟨v3, h2, h⟩ := oS h
 have f1 := Jid h2
 rcases ifC h with ⟨c4, h⟩ | ⟨c4, h⟩
 ·have f5 := Jca 
  cases h
  refine J4 (lf := lf3) rfl rfl rfl ?_
  simp only [lf3, lc3]
  rcases tof v3 with a6 | a6
  ·simp [a6] at c4
  ·simp [*]
 ·obtain ⟨v9, h8, h⟩ := oS h
  have f7 := Jjr h8
  rcases ifC h with ⟨c10, h⟩ | ⟨c10, h⟩
  ·have f11 := Jca 
   cases h
   refine J4 (lf := lf3) rfl rfl rfl ?_
   simp only [lf3, lc3]
   rcases tof v3 with a12 | a12
   ·rcases tof (ieq v9.2.2 1) with a13 | a13
    ·rcases tof (ieq (flen v9.1) 0) with a14 | a14
     ·rcases tof (ieq v9.2.1.X 0) with a15 | a15
      ·rcases tof (ieq v9.2.1.Y 0) with a16 | a16
       ·simp [*]
       ·simp [*]
      ·simp [*]
     ·simp [*]
    ·simp [*]
   ·simp [a12] at c4
  ·obtain ⟨v265, h264, h⟩ := oS h
   have f266 := Jc8 h264
   cases v265 with
   | inl v265x =>
    try simp only at h
    simp only [J8, Kl, J5] at f266
    try simp only [Jj, Jk, Jq, Jv, Jt, Jx, Jw, Ju] at f266
    cases h
    refine J4 (lf := lf3) rfl rfl rfl ?_
    simp only [lf3, lc3]
    rcases tof v3 with a268 | a268
    ·try simp only [a268, c10] at f266
     simp [*]
    ·simp [a268] at c4
   | inr v265x =>
    try simp only at h
    simp only [J8, Kl, J5] at f266
    try simp only [Jj, Jk, Jq, Jv, Jt, Jx, Jw, Ju] at f266
    obtain ⟨v272, h271, h⟩ := oS h
    have f270 := fun (q0 : (band (bnot v265x.2) (band (ieq v265x.1.X v9.2.1.X) (band (ieq v265x.1.Y v9.2.1.Y) true))) = true) => Jgr (Kb (FS.nil : (FS Jd)) h271 q0)
    obtain ⟨v275, h274, h⟩ := oS h
    have f273 := fun (q0 : (band (bnot v265x.2) (band (ieq v265x.1.X v9.2.1.X) (band (ieq v265x.1.Y v9.2.1.Y) true))) = true) => Jdu (Kb (FS.nil : (FS Ja)) h274 q0)
    obtain ⟨v278, h277, h⟩ := oS h
    have f276 := fun (q0 : (band (bnot v265x.2) (band (ieq v265x.1.X v9.2.1.X) (band (ieq v265x.1.Y v9.2.1.Y) true))) = true) => Jdu (Kb (FS.nil : (FS Ja)) h277 q0)
    obtain ⟨v281, h280, h⟩ := oS h
    have f279 := fun (q0 : (band (bnot v265x.2) (band (ieq v265x.1.X v9.2.1.X) (band (ieq v265x.1.Y v9.2.1.Y) true))) = true) => Jg0 (Kb false h280 q0)
    have f282 := Jca 
    cases h
    refine J4 (lf := lf3) rfl rfl rfl ?_
    simp only [lf3, lc3]
    rcases tof v3 with a283 | a283
    ·rcases tof v265x.2 with a284 | a284
     ·try simp only [a283, c10, a284] at f266
      simp [*]
     ·rcases tof (ieq v265x.1.X v9.2.1.X) with a285 | a285
      ·rcases tof (ieq v265x.1.Y v9.2.1.Y) with a286 | a286
       ·rcases tof (v281.getD false) with a287 | a287
        ·try simp only [a283, c10, a284, a285, a286, a287] at f266
         simp [*]
        ·try simp only [a283, c10, a284, a285, a286, a287] at f266
         simp [*]
       ·try simp only [a283, c10, a284, a285, a286] at f266
        simp [*]
      ·try simp only [a283, c10, a284, a285] at f266
       simp [*]
    ·simp [a283] at c4
end Go.Proofs.Ytemehoioeoohmaa
