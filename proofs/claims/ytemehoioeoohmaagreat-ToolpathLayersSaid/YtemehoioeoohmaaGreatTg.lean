/- Typed functions of this seat, each with the proof that the code computes it; by program (tg3.py). -/
import Derived.Test.YtemehoioeoohmaaGreatCode
import Derived.Test.YtemehoioeoohmaaGreatVu
import Derived.KernelRfl
import Derived.Test.YtemehoioeoohmaaGreatTf
namespace Go.Proofs.YtemehoioeoohmaaGreat
open Go Go.Vv Go.Proofs
open AV renaming int → I
open Go.IntKind renaming i64 → L
set_option linter.unusedSimpArgs false
set_option linter.unusedVariables false
set_option maxRecDepth 100000
set_option maxHeartbeats 4000000
variable (Γ : Env) (ps : List Nat) (σ : St)
attribute [simp] c8_0 c8_1 c8_2 c8_3 c8_4 c8_5 c8_6 c8_7 c8_8 c8_9 c8_10 c8_11 c8_12 c8_14 c8_16
theorem c8_L0_u : EC Γ ps 0 c8_L0 σ = EC Γ ps 0 (.seq (.seq (.reg false c8_9) (.cond (.t 74) .skip (.seq (.trim [0, 1, 5]) (.exit 2)))) (.seq (.blk 3 (.seq (.reg true c8_10) (.cond (.t 87) (.seq (.reg false c8_11) (.seq (.trim [4]) .ret)) .skip))) (.reg false c8_12))) σ := rfl
theorem c8_L1_u : EC Γ ps 0 c8_L1 σ = EC Γ ps 0 (.seq (.seq (.reg false c8_4) (.cond (.t 17) .skip (.seq (.trim []) (.exit 0)))) (.seq (.blk 1 (.seq (.reg true c8_5) (.seq (.seq (.reg false c8_6) (.cond (.t 69) (.seq (.reg false c8_7) (.seq (.trim [4]) .ret)) .skip)) (.seq (.reg false c8_8) (.blk 2 (.loop [0, 1, 5, 6, 7, 8] c8_L0)))))) (.reg false c8_14))) σ := rfl
attribute [simp ↓] c8_L0_u c8_L1_u
def X7 (k0 : (FS J1)) (k1 : (FS J1)) (k2 : Int) (k3 : J1) (k4 : J1) (s : Int) : Option (LR Int (Bool ⊕ Unit)) := match s with
 | s0 => (if (ilt s0 (flen k3.Cells)) = true then (J6 (fget k3.Cells s0) fun v13 => (J6 (fget k4.Cells s0) fun v16 => (if (bnot (band (ieq v13.X v16.X) (band (ieq v13.Y v16.Y) true))) = true then some (.dn (.inl false))
 else some (.nx (iadd L s0 1)))))
 else some (.dn (.inr ())))
def Xa (k0 : (FS J1)) (k1 : (FS J1)) (k2 : Int) (k3 : J1) (k4 : J1) (s : Int) : St := match s with
 | s0 => ⟨fr [(0, encF Jw k0), (1, encF Jw k1), (5, I L k2), (6, .ptr 6 0 0), (7, .ptr 7 0 0), (8, I L s0)], hl [(6, .box 0 [I L k3.Kind, I L k3.Role, I L k3.Layer, I L k3.Z, I L k3.Speed, encF Jf k3.Cells]), (7, .box 0 [I L k4.Kind, I L k4.Role, I L k4.Layer, I L k4.Z, I L k4.Speed, encF Jf k4.Cells])]⟩
def Xz (k0 : (FS J1)) (k1 : (FS J1)) (k2 : Int) (k3 : J1) (k4 : J1) (x : (Bool ⊕ Unit)) : LE × St := match x with
 | .inl x => (.ret, ⟨fr [(4, .bool x)], hl []⟩)
 | .inr x => (.exit 2, ⟨fr [(0, encF Jw k0), (1, encF Jw k1), (5, I L k2)], hl []⟩)
theorem Jgv {k0} {k1} {k2} {k3} {k4} {s} {r} (h : Kn (X7 k0 k1 k2 k3 k4) bigN s = some r) : LK env [] 0 [0, 1, 5, 6, 7, 8] c8_L0 (some (Xa k0 k1 k2 k3 k4 s)) = some (Xz k0 k1 k2 k3 k4 r) := Kh (st := Xa k0 k1 k2 k3 k4) (out := Xz k0 k1 k2 k3 k4) (by
 clear h s r
 rintro s0 x h
 simp only [X7] at h
 rcases ifC h with ⟨c16, h⟩ | ⟨c16, h⟩
 ·obtain ⟨v19, h18, h⟩ := oS h
  have f17 := Kf (e := Jf) h18
  obtain ⟨v22, h21, h⟩ := oS h
  have f20 := Kf (e := Jf) h21
  rcases ifC h with ⟨c23, h⟩ | ⟨c23, h⟩
  ·cases h
   simp only [Xa, Xz]
   rw [Jm]
   rcases tof (ieq v19.X v22.X) with a24 | a24 <;> rcases tof (ieq v19.Y v22.Y) with a25 | a25 <;> (try (simp [c16, a24, a25] at c23; done)) <;> simp [*]
  ·cases h
   simp only [Xa]
   rw [Jm]
   rcases tof (ieq v19.X v22.X) with a26 | a26 <;> rcases tof (ieq v19.Y v22.Y) with a27 | a27 <;> (try (simp [c16, a26, a27] at c23; done)) <;> simp [*]
 ·cases h
  simp only [Xa, Xz]
  rw [Jm]
  simp [*]) bigN s r h
def Zy (k0 : (FS J1)) (k1 : (FS J1)) (s : Int) : Option (LR Int (Bool ⊕ Unit)) := match s with
 | s0 => (if (ilt s0 (flen k0)) = true then (J6 (fget k0 s0) fun v5 => (J6 (fget k1 s0) fun v8 => (if (bor (bor (bor (bor (bor (ine v5.Kind v8.Kind) (ine v5.Role v8.Role)) (ine v5.Layer v8.Layer)) (ine v5.Z v8.Z)) (ine v5.Speed v8.Speed)) (ine (flen v5.Cells) (flen v8.Cells))) = true then some (.dn (.inl false))
 else (J6 (Kn (X7 k0 k1 s0 v5 v8) bigN 0) fun v19 => (match v19 with
 | .inl v19x => some (.dn (.inl v19x))
 | .inr v19x => some (.nx (iadd L s0 1)))))))
 else some (.dn (.inr ())))
def Qn (k0 : (FS J1)) (k1 : (FS J1)) (s : Int) : St := match s with
 | s0 => ⟨fr [(0, encF Jw k0), (1, encF Jw k1), (5, I L s0)], hl []⟩
def Qy (k0 : (FS J1)) (k1 : (FS J1)) (x : (Bool ⊕ Unit)) : LE × St := match x with
 | .inl x => (.ret, ⟨fr [(4, .bool x)], hl []⟩)
 | .inr x => (.exit 0, ⟨fr [], hl []⟩)
theorem Jgu {k0} {k1} {s} {r} (h : Kn (Zy k0 k1) bigN s = some r) : LK env [] 0 [0, 1, 5] c8_L1 (some (Qn k0 k1 s)) = some (Qy k0 k1 r) := Kh (st := Qn k0 k1) (out := Qy k0 k1) (by
 clear h s r
 rintro s0 x h
 simp only [Zy] at h
 rcases ifC h with ⟨c2, h⟩ | ⟨c2, h⟩
 ·obtain ⟨v5, h4, h⟩ := oS h
  have f3 := Kf (e := Jw) h4
  obtain ⟨v8, h7, h⟩ := oS h
  have f6 := Kf (e := Jw) h7
  rcases ifC h with ⟨c9, h⟩ | ⟨c9, h⟩
  ·cases h
   simp only [Qn, Qy]
   rw [Jm]
   rcases tof (ine v5.Kind v8.Kind) with a10 | a10
   ·simp [*]
   ·rcases tof (ine v5.Role v8.Role) with a11 | a11
    ·simp [*]
    ·rcases tof (ine v5.Layer v8.Layer) with a12 | a12
     ·simp [*]
     ·rcases tof (ine v5.Z v8.Z) with a13 | a13
      ·simp [*]
      ·rcases tof (ine v5.Speed v8.Speed) with a14 | a14
       ·simp [*]
       ·rcases tof (ine (flen v5.Cells) (flen v8.Cells)) with a15 | a15
        ·simp [*]
        ·simp [c2, a10, a11, a12, a13, a14, a15] at c9
  ·obtain ⟨v29, h28, h⟩ := oS h
   have f30 := Jgv h28
   cases v29 with
   | inl v29x =>
    try simp only at h
    simp only [Xa, Xz, J5, Ka] at f30
    try simp only [Jg, Jh, Jk, Jr, Ju, Jt, Js, Jv] at f30
    cases h
    simp only [Qn, Qy]
    rw [Jm]
    rcases tof (ine v5.Kind v8.Kind) with a32 | a32
    ·simp [c2, a32] at c9
    ·rcases tof (ine v5.Role v8.Role) with a33 | a33
     ·simp [c2, a32, a33] at c9
     ·rcases tof (ine v5.Layer v8.Layer) with a34 | a34
      ·simp [c2, a32, a33, a34] at c9
      ·rcases tof (ine v5.Z v8.Z) with a35 | a35
       ·simp [c2, a32, a33, a34, a35] at c9
       ·rcases tof (ine v5.Speed v8.Speed) with a36 | a36
        ·simp [c2, a32, a33, a34, a35, a36] at c9
        ·rcases tof (ine (flen v5.Cells) (flen v8.Cells)) with a37 | a37
         ·simp [c2, a32, a33, a34, a35, a36, a37] at c9
         ·try simp only [c2, a32, a33, a34, a35, a36, a37] at f30
          simp [*]
   | inr v29x =>
    try simp only at h
    simp only [Xa, Xz, J5, Ka] at f30
    try simp only [Jg, Jh, Jk, Jr, Ju, Jt, Js, Jv] at f30
    cases h
    simp only [Qn]
    rw [Jm]
    rcases tof (ine v5.Kind v8.Kind) with a39 | a39
    ·simp [c2, a39] at c9
    ·rcases tof (ine v5.Role v8.Role) with a40 | a40
     ·simp [c2, a39, a40] at c9
     ·rcases tof (ine v5.Layer v8.Layer) with a41 | a41
      ·simp [c2, a39, a40, a41] at c9
      ·rcases tof (ine v5.Z v8.Z) with a42 | a42
       ·simp [c2, a39, a40, a41, a42] at c9
       ·rcases tof (ine v5.Speed v8.Speed) with a43 | a43
        ·simp [c2, a39, a40, a41, a42, a43] at c9
        ·rcases tof (ine (flen v5.Cells) (flen v8.Cells)) with a44 | a44
         ·simp [c2, a39, a40, a41, a42, a43, a44] at c9
         ·try simp only [c2, a39, a40, a41, a42, a43, a44] at f30
          simp [*]
 ·cases h
  simp only [Qn, Qy]
  rw [Jm]
  simp [*]) bigN s r h
def Jbd (p0 : (FS J1)) (p1 : (FS J1)) : Option Bool := (if (ine (flen p0) (flen p1)) = true then some false
 else (J6 (Kn (Zy p0 p1) bigN 0) fun v22 => (match v22 with
 | .inl v22x => some v22x
 | .inr v22x => some true)))
theorem Jio {p0} {p1} {r} (h : Jbd p0 p1 = some r) : FC env 8 [encF Jw p0, encF Jw p1] none = some (.bool r, fun _ => none) := by
 unfold Jbd at h
 rcases ifC h with ⟨c1, h⟩ | ⟨c1, h⟩
 ·cases h
  refine J0 (lf := lf8) rfl rfl rfl ?_
  simp only [lf8, lc8]
  simp [*]
 ·obtain ⟨v46, h45, h⟩ := oS h
  have f47 := Jgu h45
  cases v46 with
  | inl v46x =>
   try simp only at h
   simp only [Qn, Qy, J5, Ka] at f47
   try simp only [Jg, Jh, Jk, Jr, Ju, Jt, Js, Jv] at f47
   cases h
   refine J0 (lf := lf8) rfl rfl rfl ?_
   simp only [lf8, lc8]
   try simp only [c1] at f47
   simp [*]
  | inr v46x =>
   try simp only at h
   simp only [Qn, Qy, J5, Ka] at f47
   try simp only [Jg, Jh, Jk, Jr, Ju, Jt, Js, Jv] at f47
   cases h
   refine J0 (lf := lf8) rfl rfl rfl ?_
   simp only [lf8, lc8]
   try simp only [c1] at f47
   simp [*]
attribute [simp] c3_0 c3_1 c3_2 c3_3 c3_4 c3_5
def Jaj (p0 : Zk) (p1 : Jy) : Option Bool := (J6 (Jcy p0) fun v3 => (if (bnot v3) = true then some Ja6
 else (J6 (Jc9 p0.Tracks p0.Region p0.Index p0.From p1) fun v8 => (J6 (zj p0.Tracks p0.Region p0.Index p0.From p1) fun v11 => (J6 (Jbd v8.1 v11.1) fun v14 => some (band (band (band v14 (band (ieq v8.2.1.X v11.2.1.X) (band (ieq v8.2.1.Y v11.2.1.Y) true))) (ieq v8.2.2 v11.2.2)) Ja6))))))
theorem Jf3 {p0} {p1} {r} (h : Jaj p0 p1 = some r) : FC env 3 [.agg [encF Jc p0.Tracks, encF Jq p0.Region.Rows, I L p0.Index, I L p0.From.X, I L p0.From.Y], .agg [I L p1.Pitch, I L p1.Height, I L p1.Walls, I L p1.Top, I L p1.Bottom, I L p1.Pattern, I L p1.Spacing, .bool p1.Support, I L p1.Reach, I L p1.Gap, I L p1.Brim, I L p1.Skirt, I L p1.Drop, I L p1.Feed, I L p1.Travel, I L p1.Retract, I L p1.MinTime, I L p1.MinFeed, I L p1.Nozzle, I L p1.Bed]] none = some (.bool r, fun _ => none) := by
 unfold Jaj at h
 obtain ⟨v3, h2, h⟩ := oS h
 have f1 := Jkv h2
 rcases ifC h with ⟨c4, h⟩ | ⟨c4, h⟩
 ·have f5 := Jfp 
  cases h
  refine J0 (lf := lf3) rfl rfl rfl ?_
  simp only [lf3, lc3]
  rcases tof v3 with a6 | a6
  ·simp [a6] at c4
  ·simp [*]
 ·obtain ⟨v9, h8, h⟩ := oS h
  have f7 := Jmq h8
  obtain ⟨v12, h11, h⟩ := oS h
  have f10 := Jj5 h11
  obtain ⟨v15, h14, h⟩ := oS h
  have f13 := Jio h14
  have f16 := Jfp 
  cases h
  refine J0 (lf := lf3) rfl rfl rfl ?_
  simp only [lf3, lc3]
  rcases tof v3 with a17 | a17
  ·rcases tof v15 with a18 | a18
   ·rcases tof (ieq v9.2.1.X v12.2.1.X) with a19 | a19
    ·rcases tof (ieq v9.2.1.Y v12.2.1.Y) with a20 | a20
     ·rcases tof (ieq v9.2.2 v12.2.2) with a21 | a21
      ·simp [*]
      ·simp [*]
     ·simp [*]
    ·simp [*]
   ·simp [*]
  ·simp [a17] at c4
end Go.Proofs.YtemehoioeoohmaaGreat
