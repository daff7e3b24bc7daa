/- Typed functions of this seat, each with the proof that the code computes it; by program (tg3.py). -/
import Derived.Test.YtemehoioeoohmaaCode
import Derived.Test.YtemehoioeoohmaaVu
import Derived.KernelRfl
namespace Go.Proofs.Ytemehoioeoohmaa
open Go Go.Vv Go.Proofs
set_option linter.unusedSimpArgs false
set_option linter.unusedVariables false
set_option maxRecDepth 100000
set_option maxHeartbeats 4000000
def jw (x : Int) : List AV := [.int .i64 x]
instance : EncOK 1 jw := ⟨fun _ => rfl, fun _ => by simp [jw]⟩
attribute [simp] jw
structure Ja where
  X : Int
  Y : Int
def Jh (x : Ja) : List AV := [.int .i64 x.X, .int .i64 x.Y]
instance : EncOK 2 Jh := ⟨fun _ => rfl, fun _ => by simp [Jh]⟩
attribute [simp] Jh
def Jug (x : Bool) : List AV := [.bool x]
instance : EncOK 1 Jug := ⟨fun _ => rfl, fun _ => by simp [Jug]⟩
attribute [simp] Jug
def Jel (x : (FS Ja)) : List AV := [encF Jh x]
instance : EncOK 1 Jel := ⟨fun _ => rfl, fun _ => by simp [Jel]⟩
attribute [simp] Jel
structure Jc where
  Role : Int
  Closed : Bool
  Cells : (FS Ja)
def Jg (x : Jc) : List AV := [.int .i64 x.Role, .bool x.Closed, encF Jh x.Cells]
instance : EncOK 3 Jg := ⟨fun _ => rfl, fun _ => by simp [Jg]⟩
attribute [simp] Jg
structure Kg where
  From : Int
  To : Int
def Yc (x : Kg) : List AV := [.int .i64 x.From, .int .i64 x.To]
instance : EncOK 2 Yc := ⟨fun _ => rfl, fun _ => by simp [Yc]⟩
attribute [simp] Yc
def Jf3 (x : (FS Kg)) : List AV := [encF Yc x]
instance : EncOK 1 Jf3 := ⟨fun _ => rfl, fun _ => by simp [Jf3]⟩
attribute [simp] Jf3
structure X9 where
  Y : Int
  Runs : (FS Kg)
def Jl (x : X9) : List AV := [.int .i64 x.Y, encF Yc x.Runs]
instance : EncOK 2 Jl := ⟨fun _ => rfl, fun _ => by simp [Jl]⟩
attribute [simp] Jl
def Jfn (x : (FS X9)) : List AV := [encF Jl x]
instance : EncOK 1 Jfn := ⟨fun _ => rfl, fun _ => by simp [Jfn]⟩
attribute [simp] Jfn
structure Jk where
  Rows : (FS X9)
def Jfc (x : Jk) : List AV := [encF Jl x.Rows]
instance : EncOK 1 Jfc := ⟨fun _ => rfl, fun _ => by simp [Jfc]⟩
attribute [simp] Jfc
def Jdp (x : (FS Jc)) : List AV := [encF Jg x]
instance : EncOK 1 Jdp := ⟨fun _ => rfl, fun _ => by simp [Jdp]⟩
attribute [simp] Jdp
structure Q6 where
  Tracks : (FS Jc)
  Region : Jk
  Index : Int
  From : Ja
def Ja8 (x : Q6) : List AV := [encF Jg x.Tracks, encF Jl x.Region.Rows, .int .i64 x.Index, .int .i64 x.From.X, .int .i64 x.From.Y]
instance : EncOK 5 Ja8 := ⟨fun _ => rfl, fun _ => by simp [Ja8]⟩
attribute [simp] Ja8
structure Jy where
  Pitch : Int
  Height : Int
  Walls : Int
  Top : Int
  Bottom : Int
  Pattern : Int
  Spacing : Int
  Support : Bool
  Reach : Int
  Gap : Int
  Brim : Int
  Skirt : Int
  Drop : Int
  Feed : Int
  Travel : Int
  Retract : Int
  MinTime : Int
  MinFeed : Int
  Nozzle : Int
  Bed : Int
def Jbv (x : Jy) : List AV := [.int .i64 x.Pitch, .int .i64 x.Height, .int .i64 x.Walls, .int .i64 x.Top, .int .i64 x.Bottom, .int .i64 x.Pattern, .int .i64 x.Spacing, .bool x.Support, .int .i64 x.Reach, .int .i64 x.Gap, .int .i64 x.Brim, .int .i64 x.Skirt, .int .i64 x.Drop, .int .i64 x.Feed, .int .i64 x.Travel, .int .i64 x.Retract, .int .i64 x.MinTime, .int .i64 x.MinFeed, .int .i64 x.Nozzle, .int .i64 x.Bed]
instance : EncOK 20 Jbv := ⟨fun _ => rfl, fun _ => by simp [Jbv]⟩
attribute [simp] Jbv
structure Jex where
  grid : Bool
  solid : Bool
  pattern : Bool
  around : Bool
  filament : Bool
  speeds : Bool
  heat : Bool
def Jey (x : Jex) : List AV := [.bool x.grid, .bool x.solid, .bool x.pattern, .bool x.around, .bool x.filament, .bool x.speeds, .bool x.heat]
instance : EncOK 7 Jey := ⟨fun _ => rfl, fun _ => by simp [Jey]⟩
attribute [simp] Jey
structure Jr where
  Kind : Int
  Role : Int
  Layer : Int
  Z : Int
  Speed : Int
  Cells : (FS Ja)
def Jz (x : Jr) : List AV := [.int .i64 x.Kind, .int .i64 x.Role, .int .i64 x.Layer, .int .i64 x.Z, .int .i64 x.Speed, encF Jh x.Cells]
instance : EncOK 6 Jz := ⟨fun _ => rfl, fun _ => by simp [Jz]⟩
attribute [simp] Jz
def Jgs (x : (FS Jr)) : List AV := [encF Jz x]
instance : EncOK 1 Jgs := ⟨fun _ => rfl, fun _ => by simp [Jgs]⟩
attribute [simp] Jgs
structure Jp where
  ops : (FS Jr)
def Jc4 (x : Jp) : List AV := [encF Jz x.ops]
instance : EncOK 1 Jc4 := ⟨fun _ => rfl, fun _ => by simp [Jc4]⟩
attribute [simp] Jc4
structure Jd where
  list : Jp
  r : Jk
  s : Jy
  nozzle : Ja
def Jbl (x : Jd) : List AV := [encF Jz x.list.ops, encF Jl x.r.Rows, .int .i64 x.s.Pitch, .int .i64 x.s.Height, .int .i64 x.s.Walls, .int .i64 x.s.Top, .int .i64 x.s.Bottom, .int .i64 x.s.Pattern, .int .i64 x.s.Spacing, .bool x.s.Support, .int .i64 x.s.Reach, .int .i64 x.s.Gap, .int .i64 x.s.Brim, .int .i64 x.s.Skirt, .int .i64 x.s.Drop, .int .i64 x.s.Feed, .int .i64 x.s.Travel, .int .i64 x.s.Retract, .int .i64 x.s.MinTime, .int .i64 x.s.MinFeed, .int .i64 x.s.Nozzle, .int .i64 x.s.Bed, .int .i64 x.nozzle.X, .int .i64 x.nozzle.Y]
instance : EncOK 24 Jbl := ⟨fun _ => rfl, fun _ => by simp [Jbl]⟩
attribute [simp] Jbl
structure A2 (α : Type) where
  a0 : α
  a1 : α
def A2.toL {α : Type} (x : A2 α) : List α := [x.a0, x.a1]
def A2.get {α : Type} (x : A2 α) (i : Int) : α := if i = 0 then x.a0 else x.a1
def A2.set {α : Type} (x : A2 α) (i : Int) (v : α) : A2 α := if i = 0 then { x with a0 := v } else { x with a1 := v }
section
variable {α : Type} {w : Nat} {e : α → List AV} [hE : EncOK w e]
include hE
end
def J5 (x : (A2 Ja)) : List AV := [.int .i64 x.a0.X, .int .i64 x.a0.Y, .int .i64 x.a1.X, .int .i64 x.a1.Y]
instance : EncOK 4 J5 := ⟨fun _ => rfl, fun _ => by simp [J5]⟩
attribute [simp] J5
def Jca (x : (FS (A2 Ja))) : List AV := [encF J5 x]
instance : EncOK 1 Jca := ⟨fun _ => rfl, fun _ => by simp [Jca]⟩
attribute [simp] Jca
def Jng (x : (FS Int)) : List AV := [encF jw x]
instance : EncOK 1 Jng := ⟨fun _ => rfl, fun _ => by simp [Jng]⟩
attribute [simp] Jng
structure K9 where
  from_ : Ja
  a : (FS (A2 Ja))
  b : (FS (A2 Ja))
  ahead : (FS Int)
  aback : (FS Int)
def Jfo (x : K9) : List AV := [.int .i64 x.from_.X, .int .i64 x.from_.Y, encF J5 x.a, encF J5 x.b, encF jw x.ahead, encF jw x.aback]
instance : EncOK 6 Jfo := ⟨fun _ => rfl, fun _ => by simp [Jfo]⟩
attribute [simp] Jfo
def Yq (x : Ja) : AV := .agg [.int .i64 x.X, .int .i64 x.Y]
def Kv (a b : Ja) : Bool := (band (ieq a.X b.X) (band (ieq a.Y b.Y) true))
instance : KeyOK true [false, false] Yq Kv := ⟨fun a b => by simp [Yq, Kv], fun a => by simp [Yq, AV.noNm, Jom]⟩
def Y5 (x : Ja) : AV := .agg [.int .i64 x.X, .int .i64 x.Y]
instance : ValOK Y5 := ⟨fun v => by simp [Y5, AV.noNm, Jom]⟩
structure A4 (α : Type) where
  a0 : α
  a1 : α
  a2 : α
  a3 : α
def A4.toL {α : Type} (x : A4 α) : List α := [x.a0, x.a1, x.a2, x.a3]
def A4.get {α : Type} (x : A4 α) (i : Int) : α := if i = 0 then x.a0 else if i = 1 then x.a1 else if i = 2 then x.a2 else x.a3
def A4.set {α : Type} (x : A4 α) (i : Int) (v : α) : A4 α := if i = 0 then { x with a0 := v } else if i = 1 then { x with a1 := v } else if i = 2 then { x with a2 := v } else { x with a3 := v }
section
variable {α : Type} {w : Nat} {e : α → List AV} [hE : EncOK w e]
include hE
theorem pack_A4 (x : A4 α) {i : Int} (hi : inB i 4 = true) (P Q : List AV) (hw : 0 < w) (ag : Bool) : pack ag (P ++ (Jn e x.toL ++ Q)) (aOff P.length w i) w = pack ag (e (x.get i)) 0 w :=
  pack_mid (e := e) (l := x.toL) (by
    have hc : i = 0 ∨ i = 1 ∨ i = 2 ∨ i = 3 := by rw [Jql] at hi; omega
    rcases hc with rfl | rfl | rfl | rfl <;> rfl) P Q hw ag
end

/-! additivelaw38.near -/
attribute [simp] c14_0 c14_1 c14_2 c14_3 c14_4 c14_5 c14_6 c14_8
theorem c14_L0_u (Γ : Env) (ps : List Nat) (σ : St) : EC Γ ps 0 Jlf σ = EC Γ ps 0 (.seq (.seq (.reg false c14_2) (.cond (.t 8) .skip (.seq (.trim []) (.exit 0)))) (.seq (.blk 1 (.seq (.reg false c14_3) (.seq (.reg false c14_4) (.cond (.t 52) (.seq (.reg false c14_5) (.seq (.trim [2]) .ret)) .skip)))) (.reg false c14_6))) σ := rfl
attribute [simp ↓] c14_L0_u
def Yl (k0 : (FS Ja)) (s : Int) : Option (LR Int (Bool ⊕ Unit)) := match s with
 | s0 => (if (ilt s0 (flen k0)) = true then (match fget k0 s0 with
 | none => none
 | some v4 => (if (bor (bor (bor (band (igt v4.X 60) (ilt v4.X 4096)) (band (igt v4.Y 60) (ilt v4.Y 4096))) (band (ilt v4.X (-60)) (ige v4.X (-4096)))) (band (ilt v4.Y (-60)) (ige v4.Y (-4096)))) = true then some (.dn (.inl false))
 else some (.nx (iadd .i64 s0 1))))
 else some (.dn (.inr ())))
def K4 (k0 : (FS Ja)) (s : Int) : St := match s with
 | s0 => ⟨fr [(0, encF Jh k0), (3, .int .i64 s0)], hl []⟩
def Q0 (k0 : (FS Ja)) (x : (Bool ⊕ Unit)) : LE × St := match x with
 | .inl x => (.ret, ⟨fr [(2, .bool x)], hl []⟩)
 | .inr x => (.exit 0, ⟨fr [], hl []⟩)
theorem Jda {k0 : (FS Ja)} {s : Int} {r : (Bool ⊕ Unit)} (h : Ku (Yl k0) bigN s = some r) : LK env [] 0 [0, 3] Jlf (some (K4 k0 s)) = some (Q0 k0 r) := Q3 (st := K4 k0) (out := Q0 k0) (by
 clear h s r
 rintro s0 x h
 simp only [Yl] at h
 by_cases c1 : (ilt s0 (flen k0)) = true
 · rw [if_pos c1] at h
   cases h3 : fget k0 s0 with
   | none => (rw [h3] at h; cases h)
   | some v4 =>
    simp only [h3] at h
    have f2 := K5 (e := Jh) h3
    by_cases c5 : (bor (bor (bor (band (igt v4.X 60) (ilt v4.X 4096)) (band (igt v4.Y 60) (ilt v4.Y 4096))) (band (ilt v4.X (-60)) (ige v4.X (-4096)))) (band (ilt v4.Y (-60)) (ige v4.Y (-4096)))) = true
    · rw [if_pos c5] at h
      cases h
      show LK env [] 0 [0, 3] Jlf (some (K4 _ _)) = some (Q0 _ _)
      simp only [K4, Q0]
      rw [J4]
      rcases tof (igt v4.X 60) with a6 | a6
      · rcases tof (ilt v4.X 4096) with a7 | a7
        · simp (maxSteps := 4000000) [c1, a6, a7, f2]
        · rcases tof (igt v4.Y 60) with a8 | a8
          · rcases tof (ilt v4.Y 4096) with a9 | a9
            · simp (maxSteps := 4000000) [c1, a6, a7, a8, a9, f2]
            · rcases tof (ilt v4.X (-60)) with a10 | a10
              · rcases tof (ige v4.X (-4096)) with a11 | a11
                · simp (maxSteps := 4000000) [c1, a6, a7, a8, a9, a10, a11, f2]
                · rcases tof (ilt v4.Y (-60)) with a12 | a12
                  · rcases tof (ige v4.Y (-4096)) with a13 | a13
                    · simp (maxSteps := 4000000) [c1, a6, a7, a8, a9, a10, a11, a12, a13, f2]
                    · simp [c1, a6, a7, a8, a9, a10, a11, a12, a13] at c5
                  · simp [c1, a6, a7, a8, a9, a10, a11, a12] at c5
              · rcases tof (ilt v4.Y (-60)) with a14 | a14
                · rcases tof (ige v4.Y (-4096)) with a15 | a15
                  · simp (maxSteps := 4000000) [c1, a6, a7, a8, a9, a10, a14, a15, f2]
                  · simp [c1, a6, a7, a8, a9, a10, a14, a15] at c5
                · simp [c1, a6, a7, a8, a9, a10, a14] at c5
          · rcases tof (ilt v4.X (-60)) with a16 | a16
            · rcases tof (ige v4.X (-4096)) with a17 | a17
              · simp (maxSteps := 4000000) [c1, a6, a7, a8, a16, a17, f2]
              · rcases tof (ilt v4.Y (-60)) with a18 | a18
                · rcases tof (ige v4.Y (-4096)) with a19 | a19
                  · simp (maxSteps := 4000000) [c1, a6, a7, a8, a16, a17, a18, a19, f2]
                  · simp [c1, a6, a7, a8, a16, a17, a18, a19] at c5
                · simp [c1, a6, a7, a8, a16, a17, a18] at c5
            · rcases tof (ilt v4.Y (-60)) with a20 | a20
              · rcases tof (ige v4.Y (-4096)) with a21 | a21
                · simp (maxSteps := 4000000) [c1, a6, a7, a8, a16, a20, a21, f2]
                · simp [c1, a6, a7, a8, a16, a20, a21] at c5
              · simp [c1, a6, a7, a8, a16, a20] at c5
      · rcases tof (igt v4.Y 60) with a22 | a22
        · rcases tof (ilt v4.Y 4096) with a23 | a23
          · simp (maxSteps := 4000000) [c1, a6, a22, a23, f2]
          · rcases tof (ilt v4.X (-60)) with a24 | a24
            · rcases tof (ige v4.X (-4096)) with a25 | a25
              · simp (maxSteps := 4000000) [c1, a6, a22, a23, a24, a25, f2]
              · rcases tof (ilt v4.Y (-60)) with a26 | a26
                · rcases tof (ige v4.Y (-4096)) with a27 | a27
                  · simp (maxSteps := 4000000) [c1, a6, a22, a23, a24, a25, a26, a27, f2]
                  · simp [c1, a6, a22, a23, a24, a25, a26, a27] at c5
                · simp [c1, a6, a22, a23, a24, a25, a26] at c5
            · rcases tof (ilt v4.Y (-60)) with a28 | a28
              · rcases tof (ige v4.Y (-4096)) with a29 | a29
                · simp (maxSteps := 4000000) [c1, a6, a22, a23, a24, a28, a29, f2]
                · simp [c1, a6, a22, a23, a24, a28, a29] at c5
              · simp [c1, a6, a22, a23, a24, a28] at c5
        · rcases tof (ilt v4.X (-60)) with a30 | a30
          · rcases tof (ige v4.X (-4096)) with a31 | a31
            · simp (maxSteps := 4000000) [c1, a6, a22, a30, a31, f2]
            · rcases tof (ilt v4.Y (-60)) with a32 | a32
              · rcases tof (ige v4.Y (-4096)) with a33 | a33
                · simp (maxSteps := 4000000) [c1, a6, a22, a30, a31, a32, a33, f2]
                · simp [c1, a6, a22, a30, a31, a32, a33] at c5
              · simp [c1, a6, a22, a30, a31, a32] at c5
          · rcases tof (ilt v4.Y (-60)) with a34 | a34
            · rcases tof (ige v4.Y (-4096)) with a35 | a35
              · simp (maxSteps := 4000000) [c1, a6, a22, a30, a34, a35, f2]
              · simp [c1, a6, a22, a30, a34, a35] at c5
            · simp [c1, a6, a22, a30, a34] at c5
    · rw [if_neg c5] at h
      rw [Bool.not_eq_true] at c5
      cases h
      show LK env [] 0 [0, 3] Jlf (some (K4 _ _)) = LK env [] 0 [0, 3] Jlf (some (K4 _ _))
      simp only [K4]
      rw [J4]
      rcases tof (igt v4.X 60) with a36 | a36
      · rcases tof (ilt v4.X 4096) with a37 | a37
        · simp [c1, a36, a37] at c5
        · rcases tof (igt v4.Y 60) with a38 | a38
          · rcases tof (ilt v4.Y 4096) with a39 | a39
            · simp [c1, a36, a37, a38, a39] at c5
            · rcases tof (ilt v4.X (-60)) with a40 | a40
              · rcases tof (ige v4.X (-4096)) with a41 | a41
                · simp [c1, a36, a37, a38, a39, a40, a41] at c5
                · rcases tof (ilt v4.Y (-60)) with a42 | a42
                  · rcases tof (ige v4.Y (-4096)) with a43 | a43
                    · simp [c1, a36, a37, a38, a39, a40, a41, a42, a43] at c5
                    · simp (maxSteps := 4000000) [c1, a36, a37, a38, a39, a40, a41, a42, a43, f2]
                  · simp (maxSteps := 4000000) [c1, a36, a37, a38, a39, a40, a41, a42, f2]
              · rcases tof (ilt v4.Y (-60)) with a44 | a44
                · rcases tof (ige v4.Y (-4096)) with a45 | a45
                  · simp [c1, a36, a37, a38, a39, a40, a44, a45] at c5
                  · simp (maxSteps := 4000000) [c1, a36, a37, a38, a39, a40, a44, a45, f2]
                · simp (maxSteps := 4000000) [c1, a36, a37, a38, a39, a40, a44, f2]
          · rcases tof (ilt v4.X (-60)) with a46 | a46
            · rcases tof (ige v4.X (-4096)) with a47 | a47
              · simp [c1, a36, a37, a38, a46, a47] at c5
              · rcases tof (ilt v4.Y (-60)) with a48 | a48
                · rcases tof (ige v4.Y (-4096)) with a49 | a49
                  · simp [c1, a36, a37, a38, a46, a47, a48, a49] at c5
                  · simp (maxSteps := 4000000) [c1, a36, a37, a38, a46, a47, a48, a49, f2]
                · simp (maxSteps := 4000000) [c1, a36, a37, a38, a46, a47, a48, f2]
            · rcases tof (ilt v4.Y (-60)) with a50 | a50
              · rcases tof (ige v4.Y (-4096)) with a51 | a51
                · simp [c1, a36, a37, a38, a46, a50, a51] at c5
                · simp (maxSteps := 4000000) [c1, a36, a37, a38, a46, a50, a51, f2]
              · simp (maxSteps := 4000000) [c1, a36, a37, a38, a46, a50, f2]
      · rcases tof (igt v4.Y 60) with a52 | a52
        · rcases tof (ilt v4.Y 4096) with a53 | a53
          · simp [c1, a36, a52, a53] at c5
          · rcases tof (ilt v4.X (-60)) with a54 | a54
            · rcases tof (ige v4.X (-4096)) with a55 | a55
              · simp [c1, a36, a52, a53, a54, a55] at c5
              · rcases tof (ilt v4.Y (-60)) with a56 | a56
                · rcases tof (ige v4.Y (-4096)) with a57 | a57
                  · simp [c1, a36, a52, a53, a54, a55, a56, a57] at c5
                  · simp (maxSteps := 4000000) [c1, a36, a52, a53, a54, a55, a56, a57, f2]
                · simp (maxSteps := 4000000) [c1, a36, a52, a53, a54, a55, a56, f2]
            · rcases tof (ilt v4.Y (-60)) with a58 | a58
              · rcases tof (ige v4.Y (-4096)) with a59 | a59
                · simp [c1, a36, a52, a53, a54, a58, a59] at c5
                · simp (maxSteps := 4000000) [c1, a36, a52, a53, a54, a58, a59, f2]
              · simp (maxSteps := 4000000) [c1, a36, a52, a53, a54, a58, f2]
        · rcases tof (ilt v4.X (-60)) with a60 | a60
          · rcases tof (ige v4.X (-4096)) with a61 | a61
            · simp [c1, a36, a52, a60, a61] at c5
            · rcases tof (ilt v4.Y (-60)) with a62 | a62
              · rcases tof (ige v4.Y (-4096)) with a63 | a63
                · simp [c1, a36, a52, a60, a61, a62, a63] at c5
                · simp (maxSteps := 4000000) [c1, a36, a52, a60, a61, a62, a63, f2]
              · simp (maxSteps := 4000000) [c1, a36, a52, a60, a61, a62, f2]
          · rcases tof (ilt v4.Y (-60)) with a64 | a64
            · rcases tof (ige v4.Y (-4096)) with a65 | a65
              · simp [c1, a36, a52, a60, a64, a65] at c5
              · simp (maxSteps := 4000000) [c1, a36, a52, a60, a64, a65, f2]
            · simp (maxSteps := 4000000) [c1, a36, a52, a60, a64, f2]
 · rw [if_neg c1] at h
   rw [Bool.not_eq_true] at c1
   cases h
   show LK env [] 0 [0, 3] Jlf (some (K4 _ _)) = some (Q0 _ _)
   simp only [K4, Q0]
   rw [J4]
   simp (maxSteps := 4000000) [c1]) bigN s r h
def Yw (p0 : (FS Ja)) : Option Bool := (match Ku (Yl p0) bigN 0 with
 | none => none
 | some v7 => (match v7 with
 | .inl v7x => some v7x
 | .inr v7x => some true))
theorem Jbm {p0 : (FS Ja)} {r : Bool} (h : Yw p0 = some r) : FC env 14 [encF Jh p0] none = some (.bool r, fun _ => none) := by
 unfold Yw at h
 cases h66 : Ku (Yl p0) bigN 0 with
 | none => (rw [h66] at h; cases h)
 | some v67 =>
  simp only [h66] at h
  have f68 := Jda h66
  cases v67 with
  | inl v67x =>
   try simp only at h
   simp only [K4, Q0, J8] at f68
   try simp only [Jj, Ji, Jm, Jw, Jt, Ju, Jv, Js] at f68
   cases h
   refine J9 (lf := lf14) rfl rfl rfl ?_
   simp only [lf14, lc14]
   simp (maxSteps := 4000000) [f68]
  | inr v67x =>
   try simp only at h
   simp only [K4, Q0, J8] at f68
   try simp only [Jj, Ji, Jm, Jw, Jt, Ju, Jv, Js] at f68
   cases h
   refine J9 (lf := lf14) rfl rfl rfl ?_
   simp only [lf14, lc14]
   simp (maxSteps := 4000000) [f68]

/-! additiveref18.fine -/
attribute [simp] c50_0 c50_1 c50_2 c50_3 c50_4 c50_5 c50_7
theorem c50_L0_u (Γ : Env) (ps : List Nat) (σ : St) : EC Γ ps 0 Jld σ = EC Γ ps 0 (.seq (.seq (.reg false c50_2) (.cond (.t 7) .skip (.seq (.trim [0]) (.exit 0)))) (.seq (.blk 1 (.seq (.reg true c50_3) (.cond (.t 54) (.seq (.reg false c50_4) (.seq (.trim [2]) .ret)) .skip))) (.reg false c50_5))) σ := rfl
attribute [simp ↓] c50_L0_u
def Xg (k0 : (FS Kg)) (s : Int) : Option (LR Int (Bool ⊕ Unit)) := match s with
 | s0 => (if (ilt s0 (flen k0)) = true then (match fget k0 s0 with
 | none => none
 | some v4 => (match gOpt (band (bnot (bor (bor (ilt v4.From (-4096)) (ige v4.From v4.To)) (igt v4.To 4096))) (igt s0 0)) (fget k0 (isub .i64 s0 1)) with
 | none => none
 | some v11 => (if (bor (bor (bor (ilt v4.From (-4096)) (ige v4.From v4.To)) (igt v4.To 4096)) (band (igt s0 0) (ile v4.From (((v11.getD (⟨0, 0⟩ : Kg))).To)))) = true then some (.dn (.inl false))
 else some (.nx (iadd .i64 s0 1)))))
 else some (.dn (.inr ())))
def K3 (k0 : (FS Kg)) (s : Int) : St := match s with
 | s0 => ⟨fr [(0, encF Yc k0), (3, .int .i64 s0)], hl []⟩
def Q1 (k0 : (FS Kg)) (x : (Bool ⊕ Unit)) : LE × St := match x with
 | .inl x => (.ret, ⟨fr [(2, .bool x)], hl []⟩)
 | .inr x => (.exit 0, ⟨fr [(0, encF Yc k0)], hl []⟩)
theorem Jdb {k0 : (FS Kg)} {s : Int} {r : (Bool ⊕ Unit)} (h : Ku (Xg k0) bigN s = some r) : LK env [] 0 [0, 3] Jld (some (K3 k0 s)) = some (Q1 k0 r) := Q3 (st := K3 k0) (out := Q1 k0) (by
 clear h s r
 rintro s0 x h
 simp only [Xg] at h
 by_cases c1 : (ilt s0 (flen k0)) = true
 · rw [if_pos c1] at h
   cases h3 : fget k0 s0 with
   | none => (rw [h3] at h; cases h)
   | some v4 =>
    simp only [h3] at h
    have f2 := K5 (e := Yc) h3
    cases h10 : gOpt (band (bnot (bor (bor (ilt v4.From (-4096)) (ige v4.From v4.To)) (igt v4.To 4096))) (igt s0 0)) (fget k0 (isub .i64 s0 1)) with
    | none => (rw [h10] at h; cases h)
    | some v11 =>
     simp only [h10] at h
     have f9 := fun (q0 : (bor (bor (ilt v4.From (-4096)) (ige v4.From v4.To)) (igt v4.To 4096)) = false) (q1 : (igt s0 0) = true) => K5 (e := Yc) (Qk (⟨0, 0⟩ : Kg) h10 (Jc5 (Zj q0) q1))
     by_cases c12 : (bor (bor (bor (ilt v4.From (-4096)) (ige v4.From v4.To)) (igt v4.To 4096)) (band (igt s0 0) (ile v4.From (((v11.getD (⟨0, 0⟩ : Kg))).To)))) = true
     · rw [if_pos c12] at h
       cases h
       show LK env [] 0 [0, 3] Jld (some (K3 _ _)) = some (Q1 _ _)
       simp only [K3, Q1]
       rw [J4]
       rcases tof (ilt v4.From (-4096)) with a13 | a13
       · simp (maxSteps := 4000000) [c1, a13, f2, f9]
       · rcases tof (ige v4.From v4.To) with a14 | a14
         · simp (maxSteps := 4000000) [c1, a13, a14, f2, f9]
         · rcases tof (igt v4.To 4096) with a15 | a15
           · simp (maxSteps := 4000000) [c1, a13, a14, a15, f2, f9]
           · rcases tof (igt s0 0) with a16 | a16
             · rcases tof (ile v4.From (((v11.getD (⟨0, 0⟩ : Kg))).To)) with a17 | a17
               · simp (maxSteps := 4000000) [c1, a13, a14, a15, a16, a17, f2, f9]
               · simp [c1, a13, a14, a15, a16, a17] at c12
             · simp [c1, a13, a14, a15, a16] at c12
     · rw [if_neg c12] at h
       rw [Bool.not_eq_true] at c12
       cases h
       show LK env [] 0 [0, 3] Jld (some (K3 _ _)) = LK env [] 0 [0, 3] Jld (some (K3 _ _))
       simp only [K3]
       rw [J4]
       rcases tof (ilt v4.From (-4096)) with a18 | a18
       · simp [c1, a18] at c12
       · rcases tof (ige v4.From v4.To) with a19 | a19
         · simp [c1, a18, a19] at c12
         · rcases tof (igt v4.To 4096) with a20 | a20
           · simp [c1, a18, a19, a20] at c12
           · rcases tof (igt s0 0) with a21 | a21
             · rcases tof (ile v4.From (((v11.getD (⟨0, 0⟩ : Kg))).To)) with a22 | a22
               · simp [c1, a18, a19, a20, a21, a22] at c12
               · simp (maxSteps := 4000000) [c1, a18, a19, a20, a21, a22, f2, f9]
             · simp (maxSteps := 4000000) [c1, a18, a19, a20, a21, f2, f9]
 · rw [if_neg c1] at h
   rw [Bool.not_eq_true] at c1
   cases h
   show LK env [] 0 [0, 3] Jld (some (K3 _ _)) = some (Q1 _ _)
   simp only [K3, Q1]
   rw [J4]
   simp (maxSteps := 4000000) [c1]) bigN s r h
def Zm (p0 : (FS Kg)) : Option Bool := (match Ku (Xg p0) bigN 0 with
 | none => none
 | some v14 => (match v14 with
 | .inl v14x => some v14x
 | .inr v14x => some (igt (flen p0) 0)))
theorem Jep {p0 : (FS Kg)} {r : Bool} (h : Zm p0 = some r) : FC env 50 [encF Yc p0] none = some (.bool r, fun _ => none) := by
 unfold Zm at h
 cases h23 : Ku (Xg p0) bigN 0 with
 | none => (rw [h23] at h; cases h)
 | some v24 =>
  simp only [h23] at h
  have f25 := Jdb h23
  cases v24 with
  | inl v24x =>
   try simp only at h
   simp only [K3, Q1, J8] at f25
   try simp only [Jj, Ji, Jm, Jw, Jt, Ju, Jv, Js] at f25
   cases h
   refine J9 (lf := lf50) rfl rfl rfl ?_
   simp only [lf50, lc50]
   simp (maxSteps := 4000000) [f25]
  | inr v24x =>
   try simp only at h
   simp only [K3, Q1, J8] at f25
   try simp only [Jj, Ji, Jm, Jw, Jt, Ju, Jv, Js] at f25
   cases h
   refine J9 (lf := lf50) rfl rfl rfl ?_
   simp only [lf50, lc50]
   simp (maxSteps := 4000000) [f25]

/-! additiveref18.Valid -/
attribute [simp] c30_0 c30_1 c30_2 c30_3 c30_4 c30_5 c30_6 c30_8
theorem c30_L0_u (Γ : Env) (ps : List Nat) (σ : St) : EC Γ ps 0 Jkl σ = EC Γ ps 0 (.seq (.seq (.reg false c30_2) (.cond (.t 9) .skip (.seq (.trim []) (.exit 0)))) (.seq (.blk 1 (.seq (.reg false c30_3) (.seq (.reg false c30_4) (.cond (.t 48) (.seq (.reg false c30_5) (.seq (.trim [2]) .ret)) .skip)))) (.reg false c30_6))) σ := rfl
attribute [simp ↓] c30_L0_u
def Qp (k0 : Jk) (s : Int) : Option (LR Int (Bool ⊕ Unit)) := match s with
 | s0 => (if (ilt s0 (flen k0.Rows)) = true then (match fget k0.Rows s0 with
 | none => none
 | some v4 => (match gOpt (band (bnot (bor (ilt v4.Y (-4096)) (ige v4.Y 4096))) (igt s0 0)) (fget k0.Rows (isub .i64 s0 1)) with
 | none => none
 | some v7 => (match gOpt (bnot (bor (bor (ilt v4.Y (-4096)) (ige v4.Y 4096)) (band (igt s0 0) (ile v4.Y (((v7.getD (⟨0, (FS.nil : (FS Kg))⟩ : X9))).Y))))) (Zm v4.Runs) with
 | none => none
 | some v11 => (if (bor (bor (bor (ilt v4.Y (-4096)) (ige v4.Y 4096)) (band (igt s0 0) (ile v4.Y (((v7.getD (⟨0, (FS.nil : (FS Kg))⟩ : X9))).Y)))) (bnot (v11.getD false))) = true then some (.dn (.inl false))
 else some (.nx (iadd .i64 s0 1))))))
 else some (.dn (.inr ())))
def Kx (k0 : Jk) (s : Int) : St := match s with
 | s0 => ⟨fr [(1, .ptr 1 0 0), (3, .int .i64 s0)], hl [(1, .box 0 [encF Jl k0.Rows])]⟩
def Qu (k0 : Jk) (x : (Bool ⊕ Unit)) : LE × St := match x with
 | .inl x => (.ret, ⟨fr [(2, .bool x)], hl []⟩)
 | .inr x => (.exit 0, ⟨fr [], hl []⟩)
theorem Jcv {k0 : Jk} {s : Int} {r : (Bool ⊕ Unit)} (h : Ku (Qp k0) bigN s = some r) : LK env [] 0 [1, 3] Jkl (some (Kx k0 s)) = some (Qu k0 r) := Q3 (st := Kx k0) (out := Qu k0) (by
 clear h s r
 rintro s0 x h
 simp only [Qp] at h
 by_cases c1 : (ilt s0 (flen k0.Rows)) = true
 · rw [if_pos c1] at h
   cases h3 : fget k0.Rows s0 with
   | none => (rw [h3] at h; cases h)
   | some v4 =>
    simp only [h3] at h
    have f2 := K5 (e := Jl) h3
    cases h6 : gOpt (band (bnot (bor (ilt v4.Y (-4096)) (ige v4.Y 4096))) (igt s0 0)) (fget k0.Rows (isub .i64 s0 1)) with
    | none => (rw [h6] at h; cases h)
    | some v7 =>
     simp only [h6] at h
     have f5 := fun (q0 : (bor (ilt v4.Y (-4096)) (ige v4.Y 4096)) = false) (q1 : (igt s0 0) = true) => K5 (e := Jl) (Qk (⟨0, (FS.nil : (FS Kg))⟩ : X9) h6 (Jc5 (Zj q0) q1))
     cases h10 : gOpt (bnot (bor (bor (ilt v4.Y (-4096)) (ige v4.Y 4096)) (band (igt s0 0) (ile v4.Y (((v7.getD (⟨0, (FS.nil : (FS Kg))⟩ : X9))).Y))))) (Zm v4.Runs) with
     | none => (rw [h10] at h; cases h)
     | some v11 =>
      simp only [h10] at h
      have f9 := fun (q0 : (bor (bor (ilt v4.Y (-4096)) (ige v4.Y 4096)) (band (igt s0 0) (ile v4.Y (((v7.getD (⟨0, (FS.nil : (FS Kg))⟩ : X9))).Y)))) = false) => Jep (Qk false h10 (Zj q0))
      by_cases c12 : (bor (bor (bor (ilt v4.Y (-4096)) (ige v4.Y 4096)) (band (igt s0 0) (ile v4.Y (((v7.getD (⟨0, (FS.nil : (FS Kg))⟩ : X9))).Y)))) (bnot (v11.getD false))) = true
      · rw [if_pos c12] at h
        cases h
        show LK env [] 0 [1, 3] Jkl (some (Kx _ _)) = some (Qu _ _)
        simp only [Kx, Qu]
        rw [J4]
        rcases tof (ilt v4.Y (-4096)) with a13 | a13
        · simp (maxSteps := 4000000) [c1, a13, f2, f5, f9]
        · rcases tof (ige v4.Y 4096) with a14 | a14
          · simp (maxSteps := 4000000) [c1, a13, a14, f2, f5, f9]
          · rcases tof (igt s0 0) with a15 | a15
            · rcases tof (ile v4.Y (((v7.getD (⟨0, (FS.nil : (FS Kg))⟩ : X9))).Y)) with a16 | a16
              · simp (maxSteps := 4000000) [c1, a13, a14, a15, a16, f2, f5, f9]
              · rcases tof (v11.getD false) with a17 | a17
                · simp [c1, a13, a14, a15, a16, a17] at c12
                · simp (maxSteps := 4000000) [c1, a13, a14, a15, a16, a17, f2, f5, f9]
            · rcases tof (v11.getD false) with a18 | a18
              · simp [c1, a13, a14, a15, a18] at c12
              · simp (maxSteps := 4000000) [c1, a13, a14, a15, a18, f2, f5, f9]
      · rw [if_neg c12] at h
        rw [Bool.not_eq_true] at c12
        cases h
        show LK env [] 0 [1, 3] Jkl (some (Kx _ _)) = LK env [] 0 [1, 3] Jkl (some (Kx _ _))
        simp only [Kx]
        rw [J4]
        rcases tof (ilt v4.Y (-4096)) with a19 | a19
        · simp [c1, a19] at c12
        · rcases tof (ige v4.Y 4096) with a20 | a20
          · simp [c1, a19, a20] at c12
          · rcases tof (igt s0 0) with a21 | a21
            · rcases tof (ile v4.Y (((v7.getD (⟨0, (FS.nil : (FS Kg))⟩ : X9))).Y)) with a22 | a22
              · simp [c1, a19, a20, a21, a22] at c12
              · rcases tof (v11.getD false) with a23 | a23
                · simp (maxSteps := 4000000) [c1, a19, a20, a21, a22, a23, f2, f5, f9]
                · simp [c1, a19, a20, a21, a22, a23] at c12
            · rcases tof (v11.getD false) with a24 | a24
              · simp (maxSteps := 4000000) [c1, a19, a20, a21, a24, f2, f5, f9]
              · simp [c1, a19, a20, a21, a24] at c12
 · rw [if_neg c1] at h
   rw [Bool.not_eq_true] at c1
   cases h
   show LK env [] 0 [1, 3] Jkl (some (Kx _ _)) = some (Qu _ _)
   simp only [Kx, Qu]
   rw [J4]
   simp (maxSteps := 4000000) [c1]) bigN s r h
def Y8 (p0 : Jk) : Option Bool := (match Ku (Qp p0) bigN 0 with
 | none => none
 | some v14 => (match v14 with
 | .inl v14x => some v14x
 | .inr v14x => some true))
theorem Jd7 {p0 : Jk} {r : Bool} (h : Y8 p0 = some r) : FC env 30 [.agg [encF Jl p0.Rows]] none = some (.bool r, fun _ => none) := by
 unfold Y8 at h
 cases h25 : Ku (Qp p0) bigN 0 with
 | none => (rw [h25] at h; cases h)
 | some v26 =>
  simp only [h25] at h
  have f27 := Jcv h25
  cases v26 with
  | inl v26x =>
   try simp only at h
   simp only [Kx, Qu, J8] at f27
   try simp only [Jj, Ji, Jm, Jw, Jt, Ju, Jv, Js] at f27
   cases h
   refine J9 (lf := lf30) rfl rfl rfl ?_
   simp only [lf30, lc30]
   simp (maxSteps := 4000000) [f27]
  | inr v26x =>
   try simp only at h
   simp only [Kx, Qu, J8] at f27
   try simp only [Jj, Ji, Jm, Jw, Jt, Ju, Jv, Js] at f27
   cases h
   refine J9 (lf := lf30) rfl rfl rfl ?_
   simp only [lf30, lc30]
   simp (maxSteps := 4000000) [f27]

/-! additiveref18.Count -/
attribute [simp] c15_0 c15_1 c15_2 c15_3 c15_4 c15_5 c15_6 c15_7 c15_8 c15_9 Jxn c15_13
theorem c15_L0_u (Γ : Env) (ps : List Nat) (σ : St) : EC Γ ps 0 Jjv σ = EC Γ ps 0 (.seq (.seq (.reg false c15_7) (.cond (.t 25) .skip (.seq (.trim [1, 3, 4]) (.exit 2)))) (.seq (.blk 3 (.reg true c15_8)) (.reg false c15_9))) σ := rfl
theorem c15_L1_u (Γ : Env) (ps : List Nat) (σ : St) : EC Γ ps 0 Jlo σ = EC Γ ps 0 (.seq (.seq (.reg false c15_5) (.cond (.t 14) .skip (.seq (.trim [3]) (.exit 0)))) (.seq (.blk 1 (.seq (.reg false c15_6) (.blk 2 (.loop [1, 3, 4, 5] Jjv)))) (.reg false Jxn))) σ := rfl
attribute [simp ↓] c15_L0_u c15_L1_u
def Yb (k0 : Jk) (k1 : Int) (s : (Int × Int)) : Option (LR (Int × Int) Int) := match s with
 | (s0, s1) => (match fget k0.Rows k1 with
 | none => none
 | some v8 => (if (ilt s1 (flen v8.Runs)) = true then (match fget v8.Runs s1 with
 | none => none
 | some v13 => some (.nx ((iadd .i64 s0 (isub .i64 v13.To v13.From)), (iadd .i64 s1 1))))
 else some (.dn s0)))
def Qz (k0 : Jk) (k1 : Int) (s : (Int × Int)) : St := match s with
 | (s0, s1) => ⟨fr [(1, .ptr 1 0 0), (3, .int .i64 s0), (4, .int .i64 k1), (5, .int .i64 s1)], hl [(1, .box 0 [encF Jl k0.Rows])]⟩
def Y2 (k0 : Jk) (k1 : Int) (x : Int) : LE × St := (.exit 2, ⟨fr [(1, .ptr 1 0 0), (3, .int .i64 x), (4, .int .i64 k1)], hl [(1, .box 0 [encF Jl k0.Rows])]⟩)
theorem Jc8 {k0 : Jk} {k1 : Int} {s : (Int × Int)} {r : Int} (h : Ku (Yb k0 k1) bigN s = some r) : LK env [] 0 [1, 3, 4, 5] Jjv (some (Qz k0 k1 s)) = some (Y2 k0 k1 r) := Q3 (st := Qz k0 k1) (out := Y2 k0 k1) (by
 clear h s r
 rintro ⟨s0, s1⟩ x h
 simp only [Yb] at h
 cases h8 : fget k0.Rows k1 with
 | none => (rw [h8] at h; cases h)
 | some v9 =>
  simp only [h8] at h
  have f7 := K5 (e := Jl) h8
  by_cases c10 : (ilt s1 (flen v9.Runs)) = true
  · rw [if_pos c10] at h
    cases h13 : fget v9.Runs s1 with
    | none => (rw [h13] at h; cases h)
    | some v14 =>
     simp only [h13] at h
     have f12 := K5 (e := Yc) h13
     cases h
     show LK env [] 0 [1, 3, 4, 5] Jjv (some (Qz _ _ _)) = LK env [] 0 [1, 3, 4, 5] Jjv (some (Qz _ _ _))
     simp only [Qz]
     rw [J4]
     simp (maxSteps := 4000000) [c10, f7, f12]
  · rw [if_neg c10] at h
    rw [Bool.not_eq_true] at c10
    cases h
    show LK env [] 0 [1, 3, 4, 5] Jjv (some (Qz _ _ _)) = some (Y2 _ _ _)
    simp only [Qz, Y2]
    rw [J4]
    simp (maxSteps := 4000000) [c10, f7]) bigN s r h
def X8 (k0 : Jk) (s : (Int × Int)) : Option (LR (Int × Int) Int) := match s with
 | (s0, s1) => (if (ilt s1 (flen k0.Rows)) = true then (match Ku (Yb k0 s1) bigN (s0, 0) with
 | none => none
 | some v17 => some (.nx (v17, (iadd .i64 s1 1))))
 else some (.dn s0))
def Q4 (k0 : Jk) (s : (Int × Int)) : St := match s with
 | (s0, s1) => ⟨fr [(1, .ptr 1 0 0), (3, .int .i64 s0), (4, .int .i64 s1)], hl [(1, .box 0 [encF Jl k0.Rows])]⟩
def Y0 (k0 : Jk) (x : Int) : LE × St := (.exit 0, ⟨fr [(3, .int .i64 x)], hl []⟩)
theorem Jc0 {k0 : Jk} {s : (Int × Int)} {r : Int} (h : Ku (X8 k0) bigN s = some r) : LK env [] 0 [1, 3, 4] Jlo (some (Q4 k0 s)) = some (Y0 k0 r) := Q3 (st := Q4 k0) (out := Y0 k0) (by
 clear h s r
 rintro ⟨s0, s1⟩ x h
 simp only [X8] at h
 by_cases c6 : (ilt s1 (flen k0.Rows)) = true
 · rw [if_pos c6] at h
   cases h17 : Ku (Yb k0 s1) bigN (s0, 0) with
   | none => (rw [h17] at h; cases h)
   | some v18 =>
    simp only [h17] at h
    have f19 := Jc8 h17
    simp only [Qz, Y2, J8] at f19
    try simp only [Jj, Ji, Jm, Jw, Jt, Ju, Jv, Js] at f19
    cases h
    show LK env [] 0 [1, 3, 4] Jlo (some (Q4 _ _)) = LK env [] 0 [1, 3, 4] Jlo (some (Q4 _ _))
    simp only [Q4]
    rw [J4]
    try simp only [c6] at f19
    simp (maxSteps := 4000000) [c6, f19]
 · rw [if_neg c6] at h
   rw [Bool.not_eq_true] at c6
   cases h
   show LK env [] 0 [1, 3, 4] Jlo (some (Q4 _ _)) = some (Y0 _ _)
   simp only [Q4, Y0]
   rw [J4]
   simp (maxSteps := 4000000) [c6]) bigN s r h
def Yh (p0 : Jk) : Option Int := (match Y8 p0 with
 | none => none
 | some v3 => (if (bnot v3) = true then some 0
 else (match Ku (X8 p0) bigN (0, 0) with
 | none => none
 | some v20 => some v20)))
theorem Jea {p0 : Jk} {r : Int} (h : Yh p0 = some r) : FC env 15 [.agg [encF Jl p0.Rows]] none = some (.int .i64 r, fun _ => none) := by
 unfold Yh at h
 cases h2 : Y8 p0 with
 | none => (rw [h2] at h; cases h)
 | some v3 =>
  simp only [h2] at h
  have f1 := Jd7 h2
  by_cases c4 : (bnot v3) = true
  · rw [if_pos c4] at h
    cases h
    refine J9 (lf := lf15) rfl rfl rfl ?_
    simp only [lf15, lc15]
    rcases tof v3 with a5 | a5
    · simp [a5] at c4
    · simp (maxSteps := 4000000) [a5, f1]
  · rw [if_neg c4] at h
    rw [Bool.not_eq_true] at c4
    cases h21 : Ku (X8 p0) bigN (0, 0) with
    | none => (rw [h21] at h; cases h)
    | some v22 =>
     simp only [h21] at h
     have f23 := Jc0 h21
     simp only [Q4, Y0, J8] at f23
     try simp only [Jj, Ji, Jm, Jw, Jt, Ju, Jv, Js] at f23
     cases h
     refine J9 (lf := lf15) rfl rfl rfl ?_
     simp only [lf15, lc15]
     rcases tof v3 with a25 | a25
     · try simp only [a25] at f23
       simp (maxSteps := 4000000) [a25, f1, f23]
     · simp [a25] at c4

/-! additivelaw38.few -/
attribute [simp] c5_0 c5_1 c5_2 c5_3 c5_4 c5_5 c5_7
theorem c5_L0_u (Γ : Env) (ps : List Nat) (σ : St) : EC Γ ps 0 Jqf σ = EC Γ ps 0 (.seq (.seq (.reg false c5_2) (.cond (.t 12) .skip (.seq (.trim [1]) (.exit 0)))) (.seq (.blk 1 (.seq (.reg false c5_3) (.cond (.t 32) (.seq (.reg false c5_4) (.seq (.trim [2]) .ret)) .skip))) (.reg false c5_5))) σ := rfl
attribute [simp ↓] c5_L0_u
def Q9 (k0 : Q6) (s : Int) : Option (LR Int (Bool ⊕ Unit)) := match s with
 | s0 => (if (band (ilt s0 (flen k0.Tracks)) (ilt s0 9)) = true then (match fget k0.Tracks s0 with
 | none => none
 | some v4 => (match gOpt (bnot (igt (flen v4.Cells) 40)) (Yw v4.Cells) with
 | none => none
 | some v8 => (if (bor (igt (flen v4.Cells) 40) (bnot (v8.getD false))) = true then some (.dn (.inl false))
 else some (.nx (iadd .i64 s0 1)))))
 else some (.dn (.inr ())))
def K8 (k0 : Q6) (s : Int) : St := match s with
 | s0 => ⟨fr [(1, .ptr 1 0 0), (3, .int .i64 s0)], hl [(1, .box 0 [encF Jg k0.Tracks, encF Jl k0.Region.Rows, .int .i64 k0.Index, .int .i64 k0.From.X, .int .i64 k0.From.Y])]⟩
def Xc (k0 : Q6) (x : (Bool ⊕ Unit)) : LE × St := match x with
 | .inl x => (.ret, ⟨fr [(2, .bool x)], hl []⟩)
 | .inr x => (.exit 0, ⟨fr [(1, .ptr 1 0 0)], hl [(1, .box 0 [encF Jg k0.Tracks, encF Jl k0.Region.Rows, .int .i64 k0.Index, .int .i64 k0.From.X, .int .i64 k0.From.Y])]⟩)
theorem Jdq {k0 : Q6} {s : Int} {r : (Bool ⊕ Unit)} (h : Ku (Q9 k0) bigN s = some r) : LK env [] 0 [1, 3] Jqf (some (K8 k0 s)) = some (Xc k0 r) := Q3 (st := K8 k0) (out := Xc k0) (by
 clear h s r
 rintro s0 x h
 simp only [Q9] at h
 by_cases c1 : (band (ilt s0 (flen k0.Tracks)) (ilt s0 9)) = true
 · rw [if_pos c1] at h
   cases h3 : fget k0.Tracks s0 with
   | none => (rw [h3] at h; cases h)
   | some v4 =>
    simp only [h3] at h
    have f2 := K5 (e := Jg) h3
    cases h7 : gOpt (bnot (igt (flen v4.Cells) 40)) (Yw v4.Cells) with
    | none => (rw [h7] at h; cases h)
    | some v8 =>
     simp only [h7] at h
     have f6 := fun (q0 : (igt (flen v4.Cells) 40) = false) => Jbm (Qk false h7 (Zj q0))
     by_cases c9 : (bor (igt (flen v4.Cells) 40) (bnot (v8.getD false))) = true
     · rw [if_pos c9] at h
       cases h
       show LK env [] 0 [1, 3] Jqf (some (K8 _ _)) = some (Xc _ _)
       simp only [K8, Xc]
       rw [J4]
       rcases tof (ilt s0 (flen k0.Tracks)) with a10 | a10
       · rcases tof (ilt s0 9) with a11 | a11
         · rcases tof (igt (flen v4.Cells) 40) with a12 | a12
           · simp (maxSteps := 4000000) [a10, a11, a12, f2, f6]
           · rcases tof (v8.getD false) with a13 | a13
             · simp [a10, a11, a12, a13] at c9
             · simp (maxSteps := 4000000) [a10, a11, a12, a13, f2, f6]
         · simp [a10, a11] at c1
       · simp [a10] at c1
     · rw [if_neg c9] at h
       rw [Bool.not_eq_true] at c9
       cases h
       show LK env [] 0 [1, 3] Jqf (some (K8 _ _)) = LK env [] 0 [1, 3] Jqf (some (K8 _ _))
       simp only [K8]
       rw [J4]
       rcases tof (ilt s0 (flen k0.Tracks)) with a14 | a14
       · rcases tof (ilt s0 9) with a15 | a15
         · rcases tof (igt (flen v4.Cells) 40) with a16 | a16
           · simp [a14, a15, a16] at c9
           · rcases tof (v8.getD false) with a17 | a17
             · simp (maxSteps := 4000000) [a14, a15, a16, a17, f2, f6]
             · simp [a14, a15, a16, a17] at c9
         · simp [a14, a15] at c1
       · simp [a14] at c1
 · rw [if_neg c1] at h
   rw [Bool.not_eq_true] at c1
   cases h
   show LK env [] 0 [1, 3] Jqf (some (K8 _ _)) = some (Xc _ _)
   simp only [K8, Xc]
   rw [J4]
   rcases tof (ilt s0 (flen k0.Tracks)) with a18 | a18
   · rcases tof (ilt s0 9) with a19 | a19
     · simp [a18, a19] at c1
     · simp (maxSteps := 4000000) [a18, a19]
   · simp (maxSteps := 4000000) [a18]) bigN s r h
def jq (p0 : Q6) : Option Bool := (match Ku (Q9 p0) bigN 0 with
 | none => none
 | some v11 => (match v11 with
 | .inl v11x => some v11x
 | .inr v11x => (match gOpt (ile (flen p0.Tracks) 8) (Yw (flit ([p0.From] : List Ja))) with
 | none => none
 | some v16 => (match gOpt (band (ile (flen p0.Tracks) 8) (v16.getD false)) (Yh p0.Region) with
 | none => none
 | some v19 => some (band (band (ile (flen p0.Tracks) 8) (v16.getD false)) (ile (v19.getD 0) 150))))))
theorem Je7 {p0 : Q6} {r : Bool} (h : jq p0 = some r) : FC env 5 [.agg [encF Jg p0.Tracks, encF Jl p0.Region.Rows, .int .i64 p0.Index, .int .i64 p0.From.X, .int .i64 p0.From.Y]] none = some (.bool r, fun _ => none) := by
 unfold jq at h
 cases h20 : Ku (Q9 p0) bigN 0 with
 | none => (rw [h20] at h; cases h)
 | some v21 =>
  simp only [h20] at h
  have f22 := Jdq h20
  cases v21 with
  | inl v21x =>
   try simp only at h
   simp only [K8, Xc, J8] at f22
   try simp only [Jj, Ji, Jm, Jw, Jt, Ju, Jv, Js] at f22
   cases h
   refine J9 (lf := lf5) rfl rfl rfl ?_
   simp only [lf5, lc5]
   simp (maxSteps := 4000000) [f22]
  | inr v21x =>
   try simp only at h
   simp only [K8, Xc, J8] at f22
   try simp only [Jj, Ji, Jm, Jw, Jt, Ju, Jv, Js] at f22
   have f25 := fun (H : Heap) (g0 : Nat) => bszV_ok (e := Jh) H g0 1 2 27 [p0.From] [.int .i64 p0.From.X, .int .i64 p0.From.Y] rfl (by simp [Jh]) rfl rfl
   cases h27 : gOpt (ile (flen p0.Tracks) 8) (Yw (flit ([p0.From] : List Ja))) with
   | none => (rw [h27] at h; cases h)
   | some v28 =>
    simp only [h27] at h
    have f26 := fun (q0 : (ile (flen p0.Tracks) 8) = true) => Jbm (Qk false h27 q0)
    cases h30 : gOpt (band (ile (flen p0.Tracks) 8) (v28.getD false)) (Yh p0.Region) with
    | none => (rw [h30] at h; cases h)
    | some v31 =>
     simp only [h30] at h
     have f29 := fun (q0 : (band (ile (flen p0.Tracks) 8) (v28.getD false)) = true) => Jea (Qk 0 h30 q0)
     cases h
     refine J9 (lf := lf5) rfl rfl rfl ?_
     simp only [lf5, lc5]
     rcases tof (ile (flen p0.Tracks) 8) with a32 | a32
     · rcases tof (v28.getD false) with a33 | a33
       · try simp only [a32, a33] at f22
         simp (maxSteps := 4000000) [a32, a33, f22, f25, f26, f29]
       · try simp only [a32, a33] at f22
         simp (maxSteps := 4000000) [a32, a33, f22, f25, f26, f29]
     · try simp only [a32] at f22
       simp (maxSteps := 4000000) [a32, f22, f25, f26, f29]

/-! additiveref35.in -/
attribute [simp] c34_0 c34_1
def Jf (p0 : Int) (p1 : Int) (p2 : Int) : Bool := (band (ige p0 p1) (ile p0 p2))
def Jrs (p0 : Int) (p1 : Int) (p2 : Int) : Option Bool := some (Jf p0 p1 p2)
theorem Kl (p0 : Int) (p1 : Int) (p2 : Int) : FC env 34 [.int .i64 p0, .int .i64 p1, .int .i64 p2] none = some (.bool (Jf p0 p1 p2), fun _ => none) := by
 unfold Jf
 refine J9 (lf := lf34) rfl rfl rfl ?_
 simp only [lf34, lc34]
 rcases tof (ige p0 p1) with a1 | a1
 · simp (maxSteps := 4000000) [a1]
 · simp (maxSteps := 4000000) [a1]
/-! additiveref35.Valid -/
attribute [simp] c13_0 c13_1 c13_2 c13_3 c13_4 c13_5 c13_6 c13_7 c13_8 c13_9
def Zu (p0 : Jy) : Option Bool := (if (bor (bor (bor (bnot (Jf p0.Pitch 32 1024)) (ine (irem p0.Pitch 2) 0)) (bnot (Jf p0.Height 4 1024))) (ine (irem p0.Height 2) 0)) = true then some false
 else (if (bor (bor (bor (bor (bnot (Jf p0.Walls 0 8)) (bnot (Jf p0.Top 0 16))) (bnot (Jf p0.Bottom 0 16))) (bnot (Jf p0.Pattern 0 3))) (bnot (Jf p0.Spacing 1 64))) = true then some false
 else (if (bor (bor (bor (bnot (Jf p0.Reach 0 64)) (bnot (Jf p0.Gap 0 64))) (bnot (Jf p0.Brim 0 64))) (bnot (Jf p0.Skirt 0 63))) = true then some false
 else (if (bor (bor (bor (bnot (Jf p0.Drop 1 1073741824)) (bnot (Jf p0.Feed 1 1048576))) (bnot (Jf p0.Travel 1 1048576))) (bnot (Jf p0.Retract 0 65536))) = true then some false
 else some (band (band (band (Jf p0.MinTime 0 1048576) (Jf p0.MinFeed 1 p0.Feed)) (Jf p0.Nozzle 0 400000)) (Jf p0.Bed 0 400000))))))
theorem Jec {p0 : Jy} {r : Bool} (h : Zu p0 = some r) : FC env 13 [.agg [.int .i64 p0.Pitch, .int .i64 p0.Height, .int .i64 p0.Walls, .int .i64 p0.Top, .int .i64 p0.Bottom, .int .i64 p0.Pattern, .int .i64 p0.Spacing, .bool p0.Support, .int .i64 p0.Reach, .int .i64 p0.Gap, .int .i64 p0.Brim, .int .i64 p0.Skirt, .int .i64 p0.Drop, .int .i64 p0.Feed, .int .i64 p0.Travel, .int .i64 p0.Retract, .int .i64 p0.MinTime, .int .i64 p0.MinFeed, .int .i64 p0.Nozzle, .int .i64 p0.Bed]] none = some (.bool r, fun _ => none) := by
 unfold Zu at h
 have f1 := Kl p0.Pitch 32 1024
 have f2 := Kl p0.Height 4 1024
 by_cases c3 : (bor (bor (bor (bnot (Jf p0.Pitch 32 1024)) (ine (irem p0.Pitch 2) 0)) (bnot (Jf p0.Height 4 1024))) (ine (irem p0.Height 2) 0)) = true
 · rw [if_pos c3] at h
   cases h
   refine J9 (lf := lf13) rfl rfl rfl ?_
   simp only [lf13, lc13]
   rcases tof (Jf p0.Pitch 32 1024) with a4 | a4
   · rcases tof (ine (irem p0.Pitch 2) 0) with a5 | a5
     · simp (maxSteps := 4000000) [a4, a5, f1, (show ieq 2 0 = false from rfl), f2, (show ieq 2 0 = false from rfl)]
     · rcases tof (Jf p0.Height 4 1024) with a6 | a6
       · rcases tof (ine (irem p0.Height 2) 0) with a7 | a7
         · simp (maxSteps := 4000000) [a4, a5, a6, a7, f1, (show ieq 2 0 = false from rfl), f2, (show ieq 2 0 = false from rfl)]
         · simp [a4, a5, a6, a7] at c3
       · simp (maxSteps := 4000000) [a4, a5, a6, f1, (show ieq 2 0 = false from rfl), f2, (show ieq 2 0 = false from rfl)]
   · simp (maxSteps := 4000000) [a4, f1, (show ieq 2 0 = false from rfl), f2, (show ieq 2 0 = false from rfl)]
 · rw [if_neg c3] at h
   rw [Bool.not_eq_true] at c3
   have f8 := Kl p0.Walls 0 8
   have f9 := Kl p0.Top 0 16
   have f10 := Kl p0.Bottom 0 16
   have f11 := Kl p0.Pattern 0 3
   have f12 := Kl p0.Spacing 1 64
   by_cases c13 : (bor (bor (bor (bor (bnot (Jf p0.Walls 0 8)) (bnot (Jf p0.Top 0 16))) (bnot (Jf p0.Bottom 0 16))) (bnot (Jf p0.Pattern 0 3))) (bnot (Jf p0.Spacing 1 64))) = true
   · rw [if_pos c13] at h
     cases h
     refine J9 (lf := lf13) rfl rfl rfl ?_
     simp only [lf13, lc13]
     rcases tof (Jf p0.Pitch 32 1024) with a14 | a14
     · rcases tof (ine (irem p0.Pitch 2) 0) with a15 | a15
       · simp [a14, a15] at c3
       · rcases tof (Jf p0.Height 4 1024) with a16 | a16
         · rcases tof (ine (irem p0.Height 2) 0) with a17 | a17
           · simp [a14, a15, a16, a17] at c3
           · rcases tof (Jf p0.Walls 0 8) with a18 | a18
             · rcases tof (Jf p0.Top 0 16) with a19 | a19
               · rcases tof (Jf p0.Bottom 0 16) with a20 | a20
                 · rcases tof (Jf p0.Pattern 0 3) with a21 | a21
                   · rcases tof (Jf p0.Spacing 1 64) with a22 | a22
                     · simp [a14, a15, a16, a17, a18, a19, a20, a21, a22] at c13
                     · simp (maxSteps := 4000000) [a14, a15, a16, a17, a18, a19, a20, a21, a22, f1, (show ieq 2 0 = false from rfl), f2, (show ieq 2 0 = false from rfl), f8, f9, f10, f11, f12]
                   · simp (maxSteps := 4000000) [a14, a15, a16, a17, a18, a19, a20, a21, f1, (show ieq 2 0 = false from rfl), f2, (show ieq 2 0 = false from rfl), f8, f9, f10, f11, f12]
                 · simp (maxSteps := 4000000) [a14, a15, a16, a17, a18, a19, a20, f1, (show ieq 2 0 = false from rfl), f2, (show ieq 2 0 = false from rfl), f8, f9, f10, f11, f12]
               · simp (maxSteps := 4000000) [a14, a15, a16, a17, a18, a19, f1, (show ieq 2 0 = false from rfl), f2, (show ieq 2 0 = false from rfl), f8, f9, f10, f11, f12]
             · simp (maxSteps := 4000000) [a14, a15, a16, a17, a18, f1, (show ieq 2 0 = false from rfl), f2, (show ieq 2 0 = false from rfl), f8, f9, f10, f11, f12]
         · simp [a14, a15, a16] at c3
     · simp [a14] at c3
   · rw [if_neg c13] at h
     rw [Bool.not_eq_true] at c13
     have f23 := Kl p0.Reach 0 64
     have f24 := Kl p0.Gap 0 64
     have f25 := Kl p0.Brim 0 64
     have f26 := Kl p0.Skirt 0 63
     by_cases c27 : (bor (bor (bor (bnot (Jf p0.Reach 0 64)) (bnot (Jf p0.Gap 0 64))) (bnot (Jf p0.Brim 0 64))) (bnot (Jf p0.Skirt 0 63))) = true
     · rw [if_pos c27] at h
       cases h
       refine J9 (lf := lf13) rfl rfl rfl ?_
       simp only [lf13, lc13]
       rcases tof (Jf p0.Pitch 32 1024) with a28 | a28
       · rcases tof (ine (irem p0.Pitch 2) 0) with a29 | a29
         · simp [a28, a29] at c3
         · rcases tof (Jf p0.Height 4 1024) with a30 | a30
           · rcases tof (ine (irem p0.Height 2) 0) with a31 | a31
             · simp [a28, a29, a30, a31] at c3
             · rcases tof (Jf p0.Walls 0 8) with a32 | a32
               · rcases tof (Jf p0.Top 0 16) with a33 | a33
                 · rcases tof (Jf p0.Bottom 0 16) with a34 | a34
                   · rcases tof (Jf p0.Pattern 0 3) with a35 | a35
                     · rcases tof (Jf p0.Spacing 1 64) with a36 | a36
                       · rcases tof (Jf p0.Reach 0 64) with a37 | a37
                         · rcases tof (Jf p0.Gap 0 64) with a38 | a38
                           · rcases tof (Jf p0.Brim 0 64) with a39 | a39
                             · rcases tof (Jf p0.Skirt 0 63) with a40 | a40
                               · simp [a28, a29, a30, a31, a32, a33, a34, a35, a36, a37, a38, a39, a40] at c27
                               · simp (maxSteps := 4000000) [a28, a29, a30, a31, a32, a33, a34, a35, a36, a37, a38, a39, a40, f1, (show ieq 2 0 = false from rfl), f2, (show ieq 2 0 = false from rfl), f8, f9, f10, f11, f12, f23, f24, f25, f26]
                             · simp (maxSteps := 4000000) [a28, a29, a30, a31, a32, a33, a34, a35, a36, a37, a38, a39, f1, (show ieq 2 0 = false from rfl), f2, (show ieq 2 0 = false from rfl), f8, f9, f10, f11, f12, f23, f24, f25, f26]
                           · simp (maxSteps := 4000000) [a28, a29, a30, a31, a32, a33, a34, a35, a36, a37, a38, f1, (show ieq 2 0 = false from rfl), f2, (show ieq 2 0 = false from rfl), f8, f9, f10, f11, f12, f23, f24, f25, f26]
                         · simp (maxSteps := 4000000) [a28, a29, a30, a31, a32, a33, a34, a35, a36, a37, f1, (show ieq 2 0 = false from rfl), f2, (show ieq 2 0 = false from rfl), f8, f9, f10, f11, f12, f23, f24, f25, f26]
                       · simp [a28, a29, a30, a31, a32, a33, a34, a35, a36] at c13
                     · simp [a28, a29, a30, a31, a32, a33, a34, a35] at c13
                   · simp [a28, a29, a30, a31, a32, a33, a34] at c13
                 · simp [a28, a29, a30, a31, a32, a33] at c13
               · simp [a28, a29, a30, a31, a32] at c13
           · simp [a28, a29, a30] at c3
       · simp [a28] at c3
     · rw [if_neg c27] at h
       rw [Bool.not_eq_true] at c27
       have f41 := Kl p0.Drop 1 1073741824
       have f42 := Kl p0.Feed 1 1048576
       have f43 := Kl p0.Travel 1 1048576
       have f44 := Kl p0.Retract 0 65536
       by_cases c45 : (bor (bor (bor (bnot (Jf p0.Drop 1 1073741824)) (bnot (Jf p0.Feed 1 1048576))) (bnot (Jf p0.Travel 1 1048576))) (bnot (Jf p0.Retract 0 65536))) = true
       · rw [if_pos c45] at h
         cases h
         refine J9 (lf := lf13) rfl rfl rfl ?_
         simp only [lf13, lc13]
         rcases tof (Jf p0.Pitch 32 1024) with a46 | a46
         · rcases tof (ine (irem p0.Pitch 2) 0) with a47 | a47
           · simp [a46, a47] at c3
           · rcases tof (Jf p0.Height 4 1024) with a48 | a48
             · rcases tof (ine (irem p0.Height 2) 0) with a49 | a49
               · simp [a46, a47, a48, a49] at c3
               · rcases tof (Jf p0.Walls 0 8) with a50 | a50
                 · rcases tof (Jf p0.Top 0 16) with a51 | a51
                   · rcases tof (Jf p0.Bottom 0 16) with a52 | a52
                     · rcases tof (Jf p0.Pattern 0 3) with a53 | a53
                       · rcases tof (Jf p0.Spacing 1 64) with a54 | a54
                         · rcases tof (Jf p0.Reach 0 64) with a55 | a55
                           · rcases tof (Jf p0.Gap 0 64) with a56 | a56
                             · rcases tof (Jf p0.Brim 0 64) with a57 | a57
                               · rcases tof (Jf p0.Skirt 0 63) with a58 | a58
                                 · rcases tof (Jf p0.Drop 1 1073741824) with a59 | a59
                                   · rcases tof (Jf p0.Feed 1 1048576) with a60 | a60
                                     · rcases tof (Jf p0.Travel 1 1048576) with a61 | a61
                                       · rcases tof (Jf p0.Retract 0 65536) with a62 | a62
                                         · simp [a46, a47, a48, a49, a50, a51, a52, a53, a54, a55, a56, a57, a58, a59, a60, a61, a62] at c45
                                         · simp (maxSteps := 4000000) [a46, a47, a48, a49, a50, a51, a52, a53, a54, a55, a56, a57, a58, a59, a60, a61, a62, f1, (show ieq 2 0 = false from rfl), f2, (show ieq 2 0 = false from rfl), f8, f9, f10, f11, f12, f23, f24, f25, f26, f41, f42, f43, f44]
                                       · simp (maxSteps := 4000000) [a46, a47, a48, a49, a50, a51, a52, a53, a54, a55, a56, a57, a58, a59, a60, a61, f1, (show ieq 2 0 = false from rfl), f2, (show ieq 2 0 = false from rfl), f8, f9, f10, f11, f12, f23, f24, f25, f26, f41, f42, f43, f44]
                                     · simp (maxSteps := 4000000) [a46, a47, a48, a49, a50, a51, a52, a53, a54, a55, a56, a57, a58, a59, a60, f1, (show ieq 2 0 = false from rfl), f2, (show ieq 2 0 = false from rfl), f8, f9, f10, f11, f12, f23, f24, f25, f26, f41, f42, f43, f44]
                                   · simp (maxSteps := 4000000) [a46, a47, a48, a49, a50, a51, a52, a53, a54, a55, a56, a57, a58, a59, f1, (show ieq 2 0 = false from rfl), f2, (show ieq 2 0 = false from rfl), f8, f9, f10, f11, f12, f23, f24, f25, f26, f41, f42, f43, f44]
                                 · simp [a46, a47, a48, a49, a50, a51, a52, a53, a54, a55, a56, a57, a58] at c27
                               · simp [a46, a47, a48, a49, a50, a51, a52, a53, a54, a55, a56, a57] at c27
                             · simp [a46, a47, a48, a49, a50, a51, a52, a53, a54, a55, a56] at c27
                           · simp [a46, a47, a48, a49, a50, a51, a52, a53, a54, a55] at c27
                         · simp [a46, a47, a48, a49, a50, a51, a52, a53, a54] at c13
                       · simp [a46, a47, a48, a49, a50, a51, a52, a53] at c13
                     · simp [a46, a47, a48, a49, a50, a51, a52] at c13
                   · simp [a46, a47, a48, a49, a50, a51] at c13
                 · simp [a46, a47, a48, a49, a50] at c13
             · simp [a46, a47, a48] at c3
         · simp [a46] at c3
       · rw [if_neg c45] at h
         rw [Bool.not_eq_true] at c45
         have f63 := Kl p0.MinTime 0 1048576
         have f64 := Kl p0.MinFeed 1 p0.Feed
         have f65 := Kl p0.Nozzle 0 400000
         have f66 := Kl p0.Bed 0 400000
         cases h
         refine J9 (lf := lf13) rfl rfl rfl ?_
         simp only [lf13, lc13]
         rcases tof (Jf p0.Pitch 32 1024) with a67 | a67
         · rcases tof (ine (irem p0.Pitch 2) 0) with a68 | a68
           · simp [a67, a68] at c3
           · rcases tof (Jf p0.Height 4 1024) with a69 | a69
             · rcases tof (ine (irem p0.Height 2) 0) with a70 | a70
               · simp [a67, a68, a69, a70] at c3
               · rcases tof (Jf p0.Walls 0 8) with a71 | a71
                 · rcases tof (Jf p0.Top 0 16) with a72 | a72
                   · rcases tof (Jf p0.Bottom 0 16) with a73 | a73
                     · rcases tof (Jf p0.Pattern 0 3) with a74 | a74
                       · rcases tof (Jf p0.Spacing 1 64) with a75 | a75
                         · rcases tof (Jf p0.Reach 0 64) with a76 | a76
                           · rcases tof (Jf p0.Gap 0 64) with a77 | a77
                             · rcases tof (Jf p0.Brim 0 64) with a78 | a78
                               · rcases tof (Jf p0.Skirt 0 63) with a79 | a79
                                 · rcases tof (Jf p0.Drop 1 1073741824) with a80 | a80
                                   · rcases tof (Jf p0.Feed 1 1048576) with a81 | a81
                                     · rcases tof (Jf p0.Travel 1 1048576) with a82 | a82
                                       · rcases tof (Jf p0.Retract 0 65536) with a83 | a83
                                         · rcases tof (Jf p0.MinTime 0 1048576) with a84 | a84
                                           · rcases tof (Jf p0.MinFeed 1 p0.Feed) with a85 | a85
                                             · rcases tof (Jf p0.Nozzle 0 400000) with a86 | a86
                                               · simp (maxSteps := 4000000) [a67, a68, a69, a70, a71, a72, a73, a74, a75, a76, a77, a78, a79, a80, a81, a82, a83, a84, a85, a86, f1, (show ieq 2 0 = false from rfl), f2, (show ieq 2 0 = false from rfl), f8, f9, f10, f11, f12, f23, f24, f25, f26, f41, f42, f43, f44, f63, f64, f65, f66]
                                               · simp (maxSteps := 4000000) [a67, a68, a69, a70, a71, a72, a73, a74, a75, a76, a77, a78, a79, a80, a81, a82, a83, a84, a85, a86, f1, (show ieq 2 0 = false from rfl), f2, (show ieq 2 0 = false from rfl), f8, f9, f10, f11, f12, f23, f24, f25, f26, f41, f42, f43, f44, f63, f64, f65, f66]
                                             · simp (maxSteps := 4000000) [a67, a68, a69, a70, a71, a72, a73, a74, a75, a76, a77, a78, a79, a80, a81, a82, a83, a84, a85, f1, (show ieq 2 0 = false from rfl), f2, (show ieq 2 0 = false from rfl), f8, f9, f10, f11, f12, f23, f24, f25, f26, f41, f42, f43, f44, f63, f64, f65, f66]
                                           · simp (maxSteps := 4000000) [a67, a68, a69, a70, a71, a72, a73, a74, a75, a76, a77, a78, a79, a80, a81, a82, a83, a84, f1, (show ieq 2 0 = false from rfl), f2, (show ieq 2 0 = false from rfl), f8, f9, f10, f11, f12, f23, f24, f25, f26, f41, f42, f43, f44, f63, f64, f65, f66]
                                         · simp [a67, a68, a69, a70, a71, a72, a73, a74, a75, a76, a77, a78, a79, a80, a81, a82, a83] at c45
                                       · simp [a67, a68, a69, a70, a71, a72, a73, a74, a75, a76, a77, a78, a79, a80, a81, a82] at c45
                                     · simp [a67, a68, a69, a70, a71, a72, a73, a74, a75, a76, a77, a78, a79, a80, a81] at c45
                                   · simp [a67, a68, a69, a70, a71, a72, a73, a74, a75, a76, a77, a78, a79, a80] at c45
                                 · simp [a67, a68, a69, a70, a71, a72, a73, a74, a75, a76, a77, a78, a79] at c27
                               · simp [a67, a68, a69, a70, a71, a72, a73, a74, a75, a76, a77, a78] at c27
                             · simp [a67, a68, a69, a70, a71, a72, a73, a74, a75, a76, a77] at c27
                           · simp [a67, a68, a69, a70, a71, a72, a73, a74, a75, a76] at c27
                         · simp [a67, a68, a69, a70, a71, a72, a73, a74, a75] at c13
                       · simp [a67, a68, a69, a70, a71, a72, a73, a74] at c13
                     · simp [a67, a68, a69, a70, a71, a72, a73] at c13
                   · simp [a67, a68, a69, a70, a71, a72] at c13
                 · simp [a67, a68, a69, a70, a71] at c13
             · simp [a67, a68, a69] at c3
         · simp [a67] at c3

/-! additivelaw38.works -/
def zr : Bool := true
theorem Jac : FC env 6 [] none = some (.bool zr, fun _ => none) := Jdl.2 ⟨60, by kernel_rfl⟩

/-! flow.within -/
attribute [simp] c56_0 c56_1
def Jb (p0 : Int) (p1 : Int) (p2 : Int) : Bool := (band (ige p0 p1) (ile p0 p2))
def t_flow_within (p0 : Int) (p1 : Int) (p2 : Int) : Option Bool := some (Jb p0 p1 p2)
theorem Qh (p0 : Int) (p1 : Int) (p2 : Int) : FC env 56 [.int .i64 p0, .int .i64 p1, .int .i64 p2] none = some (.bool (Jb p0 p1 p2), fun _ => none) := by
 unfold Jb
 refine J9 (lf := lf56) rfl rfl rfl ?_
 simp only [lf56, lc56]
 rcases tof (ige p0 p1) with a1 | a1
 · simp (maxSteps := 4000000) [a1]
 · simp (maxSteps := 4000000) [a1]
/-! flow.even -/
attribute [simp] c55_0 c55_1
def Yy (p0 : Int) (p1 : Int) (p2 : Int) : Bool := (band (Jb p0 p1 p2) (ieq (irem p0 2) 0))
def t_flow_even (p0 : Int) (p1 : Int) (p2 : Int) : Option Bool := some (Yy p0 p1 p2)
theorem Jgm (p0 : Int) (p1 : Int) (p2 : Int) : FC env 55 [.int .i64 p0, .int .i64 p1, .int .i64 p2] none = some (.bool (Yy p0 p1 p2), fun _ => none) := by
 unfold Yy
 have f1 := Qh p0 p1 p2
 refine J9 (lf := lf55) rfl rfl rfl ?_
 simp only [lf55, lc55]
 rcases tof (Jb p0 p1 p2) with a2 | a2
 · simp (maxSteps := 4000000) [a2, f1, (show ieq 2 0 = false from rfl)]
 · simp (maxSteps := 4000000) [a2, f1, (show ieq 2 0 = false from rfl)]
/-! flow.check -/
attribute [simp] c37_0 c37_1
def Yj (p0 : Jy) : Jex := (⟨(bor (bnot (Yy p0.Pitch 32 1024)) (bnot (Yy p0.Height 4 1024))), (bor (bor (bnot (Jb p0.Walls 0 8)) (bnot (Jb p0.Top 0 16))) (bnot (Jb p0.Bottom 0 16))), (bor (bnot (Jb p0.Pattern 0 3)) (bnot (Jb p0.Spacing 1 64))), (bor (bor (bor (bnot (Jb p0.Reach 0 64)) (bnot (Jb p0.Gap 0 64))) (bnot (Jb p0.Brim 0 64))) (bnot (Jb p0.Skirt 0 63))), (bor (bnot (Jb p0.Drop 1 1073741824)) (bnot (Jb p0.Retract 0 65536))), (bor (bor (bor (bnot (Jb p0.Feed 1 1048576)) (bnot (Jb p0.Travel 1 1048576))) (bnot (Jb p0.MinTime 0 1048576))) (bnot (Jb p0.MinFeed 1 p0.Feed))), (bor (bnot (Jb p0.Nozzle 0 400000)) (bnot (Jb p0.Bed 0 400000)))⟩ : Jex)
def t_flow_check (p0 : Jy) : Option Jex := some (Yj p0)
theorem Jke (p0 : Jy) : FC env 37 [.agg [.int .i64 p0.Pitch, .int .i64 p0.Height, .int .i64 p0.Walls, .int .i64 p0.Top, .int .i64 p0.Bottom, .int .i64 p0.Pattern, .int .i64 p0.Spacing, .bool p0.Support, .int .i64 p0.Reach, .int .i64 p0.Gap, .int .i64 p0.Brim, .int .i64 p0.Skirt, .int .i64 p0.Drop, .int .i64 p0.Feed, .int .i64 p0.Travel, .int .i64 p0.Retract, .int .i64 p0.MinTime, .int .i64 p0.MinFeed, .int .i64 p0.Nozzle, .int .i64 p0.Bed]] none = some (.agg [.bool (((Yj p0)).grid), .bool (((Yj p0)).solid), .bool (((Yj p0)).pattern), .bool (((Yj p0)).around), .bool (((Yj p0)).filament), .bool (((Yj p0)).speeds), .bool (((Yj p0)).heat)], fun _ => none) := by
 unfold Yj
 refine J9 (lf := lf37) rfl rfl rfl ?_
 simp only [lf37, lc37]
 simp [-c37_1]
 unfold c37_1
 rw [Q5 (v := (.ptr 1 0 0))]
 rotate_left
 · rfl
 · simp []
 rw [Q5 (v := (.int .i64 p0.Pitch))]
 rotate_left
 · rfl
 · simp []
 have f1 := Jgm p0.Pitch 32 1024
 rw [Q5 (v := (.bool (Yy p0.Pitch 32 1024)))]
 rotate_left
 · rfl
 · simp [f1]
 rw [Q5 (v := (.bool (bnot (Yy p0.Pitch 32 1024))))]
 rotate_left
 · rfl
 · simp []
 rw [Q5 (v := (.bool (bnot (Yy p0.Pitch 32 1024))))]
 rotate_left
 · rfl
 · simp []
 rw [Xd (c := (bnot (Yy p0.Pitch 32 1024))) (v := (.ptr 1 0 1))]
 rotate_left
 · rfl
 · simp
 · intro q
   simp [q]
 rw [Xd (c := (bnot (Yy p0.Pitch 32 1024))) (v := (.int .i64 p0.Height))]
 rotate_left
 · rfl
 · simp
 · intro q
   simp [q]
 have f2 := Jgm p0.Height 4 1024
 rw [Xd (c := (bnot (Yy p0.Pitch 32 1024))) (v := (.bool (Yy p0.Height 4 1024)))]
 rotate_left
 · rfl
 · simp
 · intro q
   simp [q, f2]
 rw [Xd (c := (bnot (Yy p0.Pitch 32 1024))) (v := (.bool (bnot (Yy p0.Height 4 1024))))]
 rotate_left
 · rfl
 · simp
 · intro q
   simp [q]
 rw [Q5 (v := (.bool (bor (bnot (Yy p0.Pitch 32 1024)) (bnot (Yy p0.Height 4 1024)))))]
 rotate_left
 · rfl
 · rcases tof (bnot (Yy p0.Pitch 32 1024)) with q | q <;> simp [q]
 rw [Q5 (v := (.ptr 1 0 2))]
 rotate_left
 · rfl
 · simp []
 rw [Q5 (v := (.int .i64 p0.Walls))]
 rotate_left
 · rfl
 · simp []
 have f3 := Qh p0.Walls 0 8
 rw [Q5 (v := (.bool (Jb p0.Walls 0 8)))]
 rotate_left
 · rfl
 · simp [f3]
 rw [Q5 (v := (.bool (bnot (Jb p0.Walls 0 8))))]
 rotate_left
 · rfl
 · simp []
 rw [Q5 (v := (.bool (bnot (Jb p0.Walls 0 8))))]
 rotate_left
 · rfl
 · simp []
 rw [Xd (c := (bnot (Jb p0.Walls 0 8))) (v := (.ptr 1 0 3))]
 rotate_left
 · rfl
 · simp
 · intro q
   simp [q]
 rw [Xd (c := (bnot (Jb p0.Walls 0 8))) (v := (.int .i64 p0.Top))]
 rotate_left
 · rfl
 · simp
 · intro q
   simp [q]
 have f4 := Qh p0.Top 0 16
 rw [Xd (c := (bnot (Jb p0.Walls 0 8))) (v := (.bool (Jb p0.Top 0 16)))]
 rotate_left
 · rfl
 · simp
 · intro q
   simp [q, f4]
 rw [Xd (c := (bnot (Jb p0.Walls 0 8))) (v := (.bool (bnot (Jb p0.Top 0 16))))]
 rotate_left
 · rfl
 · simp
 · intro q
   simp [q]
 rw [Q5 (v := (.bool (bor (bnot (Jb p0.Walls 0 8)) (bnot (Jb p0.Top 0 16)))))]
 rotate_left
 · rfl
 · rcases tof (bnot (Jb p0.Walls 0 8)) with q | q <;> simp [q]
 rw [Q5 (v := (.bool (bor (bnot (Jb p0.Walls 0 8)) (bnot (Jb p0.Top 0 16)))))]
 rotate_left
 · rfl
 · simp []
 rw [Xd (c := (bor (bnot (Jb p0.Walls 0 8)) (bnot (Jb p0.Top 0 16)))) (v := (.ptr 1 0 4))]
 rotate_left
 · rfl
 · simp
 · intro q
   simp [q]
 rw [Xd (c := (bor (bnot (Jb p0.Walls 0 8)) (bnot (Jb p0.Top 0 16)))) (v := (.int .i64 p0.Bottom))]
 rotate_left
 · rfl
 · simp
 · intro q
   simp [q]
 have f5 := Qh p0.Bottom 0 16
 rw [Xd (c := (bor (bnot (Jb p0.Walls 0 8)) (bnot (Jb p0.Top 0 16)))) (v := (.bool (Jb p0.Bottom 0 16)))]
 rotate_left
 · rfl
 · simp
 · intro q
   simp [q, f5]
 rw [Xd (c := (bor (bnot (Jb p0.Walls 0 8)) (bnot (Jb p0.Top 0 16)))) (v := (.bool (bnot (Jb p0.Bottom 0 16))))]
 rotate_left
 · rfl
 · simp
 · intro q
   simp [q]
 rw [Q5 (v := (.bool (bor (bor (bnot (Jb p0.Walls 0 8)) (bnot (Jb p0.Top 0 16))) (bnot (Jb p0.Bottom 0 16)))))]
 rotate_left
 · rfl
 · rcases tof (bor (bnot (Jb p0.Walls 0 8)) (bnot (Jb p0.Top 0 16))) with q | q <;> simp [q]
 rw [Q5 (v := (.ptr 1 0 5))]
 rotate_left
 · rfl
 · simp []
 rw [Q5 (v := (.int .i64 p0.Pattern))]
 rotate_left
 · rfl
 · simp []
 have f6 := Qh p0.Pattern 0 3
 rw [Q5 (v := (.bool (Jb p0.Pattern 0 3)))]
 rotate_left
 · rfl
 · simp [f6]
 rw [Q5 (v := (.bool (bnot (Jb p0.Pattern 0 3))))]
 rotate_left
 · rfl
 · simp []
 rw [Q5 (v := (.bool (bnot (Jb p0.Pattern 0 3))))]
 rotate_left
 · rfl
 · simp []
 rw [Xd (c := (bnot (Jb p0.Pattern 0 3))) (v := (.ptr 1 0 6))]
 rotate_left
 · rfl
 · simp
 · intro q
   simp [q]
 rw [Xd (c := (bnot (Jb p0.Pattern 0 3))) (v := (.int .i64 p0.Spacing))]
 rotate_left
 · rfl
 · simp
 · intro q
   simp [q]
 have f7 := Qh p0.Spacing 1 64
 rw [Xd (c := (bnot (Jb p0.Pattern 0 3))) (v := (.bool (Jb p0.Spacing 1 64)))]
 rotate_left
 · rfl
 · simp
 · intro q
   simp [q, f7]
 rw [Xd (c := (bnot (Jb p0.Pattern 0 3))) (v := (.bool (bnot (Jb p0.Spacing 1 64))))]
 rotate_left
 · rfl
 · simp
 · intro q
   simp [q]
 rw [Q5 (v := (.bool (bor (bnot (Jb p0.Pattern 0 3)) (bnot (Jb p0.Spacing 1 64)))))]
 rotate_left
 · rfl
 · rcases tof (bnot (Jb p0.Pattern 0 3)) with q | q <;> simp [q]
 rw [Q5 (v := (.ptr 1 0 8))]
 rotate_left
 · rfl
 · simp []
 rw [Q5 (v := (.int .i64 p0.Reach))]
 rotate_left
 · rfl
 · simp []
 have f8 := Qh p0.Reach 0 64
 rw [Q5 (v := (.bool (Jb p0.Reach 0 64)))]
 rotate_left
 · rfl
 · simp [f8]
 rw [Q5 (v := (.bool (bnot (Jb p0.Reach 0 64))))]
 rotate_left
 · rfl
 · simp []
 rw [Q5 (v := (.bool (bnot (Jb p0.Reach 0 64))))]
 rotate_left
 · rfl
 · simp []
 rw [Xd (c := (bnot (Jb p0.Reach 0 64))) (v := (.ptr 1 0 9))]
 rotate_left
 · rfl
 · simp
 · intro q
   simp [q]
 rw [Xd (c := (bnot (Jb p0.Reach 0 64))) (v := (.int .i64 p0.Gap))]
 rotate_left
 · rfl
 · simp
 · intro q
   simp [q]
 have f9 := Qh p0.Gap 0 64
 rw [Xd (c := (bnot (Jb p0.Reach 0 64))) (v := (.bool (Jb p0.Gap 0 64)))]
 rotate_left
 · rfl
 · simp
 · intro q
   simp [q, f9]
 rw [Xd (c := (bnot (Jb p0.Reach 0 64))) (v := (.bool (bnot (Jb p0.Gap 0 64))))]
 rotate_left
 · rfl
 · simp
 · intro q
   simp [q]
 rw [Q5 (v := (.bool (bor (bnot (Jb p0.Reach 0 64)) (bnot (Jb p0.Gap 0 64)))))]
 rotate_left
 · rfl
 · rcases tof (bnot (Jb p0.Reach 0 64)) with q | q <;> simp [q]
 rw [Q5 (v := (.bool (bor (bnot (Jb p0.Reach 0 64)) (bnot (Jb p0.Gap 0 64)))))]
 rotate_left
 · rfl
 · simp []
 rw [Xd (c := (bor (bnot (Jb p0.Reach 0 64)) (bnot (Jb p0.Gap 0 64)))) (v := (.ptr 1 0 10))]
 rotate_left
 · rfl
 · simp
 · intro q
   simp [q]
 rw [Xd (c := (bor (bnot (Jb p0.Reach 0 64)) (bnot (Jb p0.Gap 0 64)))) (v := (.int .i64 p0.Brim))]
 rotate_left
 · rfl
 · simp
 · intro q
   simp [q]
 have f10 := Qh p0.Brim 0 64
 rw [Xd (c := (bor (bnot (Jb p0.Reach 0 64)) (bnot (Jb p0.Gap 0 64)))) (v := (.bool (Jb p0.Brim 0 64)))]
 rotate_left
 · rfl
 · simp
 · intro q
   simp [q, f10]
 rw [Xd (c := (bor (bnot (Jb p0.Reach 0 64)) (bnot (Jb p0.Gap 0 64)))) (v := (.bool (bnot (Jb p0.Brim 0 64))))]
 rotate_left
 · rfl
 · simp
 · intro q
   simp [q]
 rw [Q5 (v := (.bool (bor (bor (bnot (Jb p0.Reach 0 64)) (bnot (Jb p0.Gap 0 64))) (bnot (Jb p0.Brim 0 64)))))]
 rotate_left
 · rfl
 · rcases tof (bor (bnot (Jb p0.Reach 0 64)) (bnot (Jb p0.Gap 0 64))) with q | q <;> simp [q]
 rw [Q5 (v := (.bool (bor (bor (bnot (Jb p0.Reach 0 64)) (bnot (Jb p0.Gap 0 64))) (bnot (Jb p0.Brim 0 64)))))]
 rotate_left
 · rfl
 · simp []
 rw [Xd (c := (bor (bor (bnot (Jb p0.Reach 0 64)) (bnot (Jb p0.Gap 0 64))) (bnot (Jb p0.Brim 0 64)))) (v := (.ptr 1 0 11))]
 rotate_left
 · rfl
 · simp
 · intro q
   simp [q]
 rw [Xd (c := (bor (bor (bnot (Jb p0.Reach 0 64)) (bnot (Jb p0.Gap 0 64))) (bnot (Jb p0.Brim 0 64)))) (v := (.int .i64 p0.Skirt))]
 rotate_left
 · rfl
 · simp
 · intro q
   simp [q]
 have f11 := Qh p0.Skirt 0 63
 rw [Xd (c := (bor (bor (bnot (Jb p0.Reach 0 64)) (bnot (Jb p0.Gap 0 64))) (bnot (Jb p0.Brim 0 64)))) (v := (.bool (Jb p0.Skirt 0 63)))]
 rotate_left
 · rfl
 · simp
 · intro q
   simp [q, f11]
 rw [Xd (c := (bor (bor (bnot (Jb p0.Reach 0 64)) (bnot (Jb p0.Gap 0 64))) (bnot (Jb p0.Brim 0 64)))) (v := (.bool (bnot (Jb p0.Skirt 0 63))))]
 rotate_left
 · rfl
 · simp
 · intro q
   simp [q]
 rw [Q5 (v := (.bool (bor (bor (bor (bnot (Jb p0.Reach 0 64)) (bnot (Jb p0.Gap 0 64))) (bnot (Jb p0.Brim 0 64))) (bnot (Jb p0.Skirt 0 63)))))]
 rotate_left
 · rfl
 · rcases tof (bor (bor (bnot (Jb p0.Reach 0 64)) (bnot (Jb p0.Gap 0 64))) (bnot (Jb p0.Brim 0 64))) with q | q <;> simp [q]
 rw [Q5 (v := (.ptr 1 0 12))]
 rotate_left
 · rfl
 · simp []
 rw [Q5 (v := (.int .i64 p0.Drop))]
 rotate_left
 · rfl
 · simp []
 have f12 := Qh p0.Drop 1 1073741824
 rw [Q5 (v := (.bool (Jb p0.Drop 1 1073741824)))]
 rotate_left
 · rfl
 · simp [f12]
 rw [Q5 (v := (.bool (bnot (Jb p0.Drop 1 1073741824))))]
 rotate_left
 · rfl
 · simp []
 rw [Q5 (v := (.bool (bnot (Jb p0.Drop 1 1073741824))))]
 rotate_left
 · rfl
 · simp []
 rw [Xd (c := (bnot (Jb p0.Drop 1 1073741824))) (v := (.ptr 1 0 15))]
 rotate_left
 · rfl
 · simp
 · intro q
   simp [q]
 rw [Xd (c := (bnot (Jb p0.Drop 1 1073741824))) (v := (.int .i64 p0.Retract))]
 rotate_left
 · rfl
 · simp
 · intro q
   simp [q]
 have f13 := Qh p0.Retract 0 65536
 rw [Xd (c := (bnot (Jb p0.Drop 1 1073741824))) (v := (.bool (Jb p0.Retract 0 65536)))]
 rotate_left
 · rfl
 · simp
 · intro q
   simp [q, f13]
 rw [Xd (c := (bnot (Jb p0.Drop 1 1073741824))) (v := (.bool (bnot (Jb p0.Retract 0 65536))))]
 rotate_left
 · rfl
 · simp
 · intro q
   simp [q]
 rw [Q5 (v := (.bool (bor (bnot (Jb p0.Drop 1 1073741824)) (bnot (Jb p0.Retract 0 65536)))))]
 rotate_left
 · rfl
 · rcases tof (bnot (Jb p0.Drop 1 1073741824)) with q | q <;> simp [q]
 rw [Q5 (v := (.ptr 1 0 13))]
 rotate_left
 · rfl
 · simp []
 rw [Q5 (v := (.int .i64 p0.Feed))]
 rotate_left
 · rfl
 · simp []
 have f14 := Qh p0.Feed 1 1048576
 rw [Q5 (v := (.bool (Jb p0.Feed 1 1048576)))]
 rotate_left
 · rfl
 · simp [f14]
 rw [Q5 (v := (.bool (bnot (Jb p0.Feed 1 1048576))))]
 rotate_left
 · rfl
 · simp []
 rw [Q5 (v := (.bool (bnot (Jb p0.Feed 1 1048576))))]
 rotate_left
 · rfl
 · simp []
 rw [Xd (c := (bnot (Jb p0.Feed 1 1048576))) (v := (.ptr 1 0 14))]
 rotate_left
 · rfl
 · simp
 · intro q
   simp [q]
 rw [Xd (c := (bnot (Jb p0.Feed 1 1048576))) (v := (.int .i64 p0.Travel))]
 rotate_left
 · rfl
 · simp
 · intro q
   simp [q]
 have f15 := Qh p0.Travel 1 1048576
 rw [Xd (c := (bnot (Jb p0.Feed 1 1048576))) (v := (.bool (Jb p0.Travel 1 1048576)))]
 rotate_left
 · rfl
 · simp
 · intro q
   simp [q, f15]
 rw [Xd (c := (bnot (Jb p0.Feed 1 1048576))) (v := (.bool (bnot (Jb p0.Travel 1 1048576))))]
 rotate_left
 · rfl
 · simp
 · intro q
   simp [q]
 rw [Q5 (v := (.bool (bor (bnot (Jb p0.Feed 1 1048576)) (bnot (Jb p0.Travel 1 1048576)))))]
 rotate_left
 · rfl
 · rcases tof (bnot (Jb p0.Feed 1 1048576)) with q | q <;> simp [q]
 rw [Q5 (v := (.bool (bor (bnot (Jb p0.Feed 1 1048576)) (bnot (Jb p0.Travel 1 1048576)))))]
 rotate_left
 · rfl
 · simp []
 rw [Xd (c := (bor (bnot (Jb p0.Feed 1 1048576)) (bnot (Jb p0.Travel 1 1048576)))) (v := (.ptr 1 0 16))]
 rotate_left
 · rfl
 · simp
 · intro q
   simp [q]
 rw [Xd (c := (bor (bnot (Jb p0.Feed 1 1048576)) (bnot (Jb p0.Travel 1 1048576)))) (v := (.int .i64 p0.MinTime))]
 rotate_left
 · rfl
 · simp
 · intro q
   simp [q]
 have f16 := Qh p0.MinTime 0 1048576
 rw [Xd (c := (bor (bnot (Jb p0.Feed 1 1048576)) (bnot (Jb p0.Travel 1 1048576)))) (v := (.bool (Jb p0.MinTime 0 1048576)))]
 rotate_left
 · rfl
 · simp
 · intro q
   simp [q, f16]
 rw [Xd (c := (bor (bnot (Jb p0.Feed 1 1048576)) (bnot (Jb p0.Travel 1 1048576)))) (v := (.bool (bnot (Jb p0.MinTime 0 1048576))))]
 rotate_left
 · rfl
 · simp
 · intro q
   simp [q]
 rw [Q5 (v := (.bool (bor (bor (bnot (Jb p0.Feed 1 1048576)) (bnot (Jb p0.Travel 1 1048576))) (bnot (Jb p0.MinTime 0 1048576)))))]
 rotate_left
 · rfl
 · rcases tof (bor (bnot (Jb p0.Feed 1 1048576)) (bnot (Jb p0.Travel 1 1048576))) with q | q <;> simp [q]
 rw [Q5 (v := (.bool (bor (bor (bnot (Jb p0.Feed 1 1048576)) (bnot (Jb p0.Travel 1 1048576))) (bnot (Jb p0.MinTime 0 1048576)))))]
 rotate_left
 · rfl
 · simp []
 rw [Xd (c := (bor (bor (bnot (Jb p0.Feed 1 1048576)) (bnot (Jb p0.Travel 1 1048576))) (bnot (Jb p0.MinTime 0 1048576)))) (v := (.ptr 1 0 17))]
 rotate_left
 · rfl
 · simp
 · intro q
   simp [q]
 rw [Xd (c := (bor (bor (bnot (Jb p0.Feed 1 1048576)) (bnot (Jb p0.Travel 1 1048576))) (bnot (Jb p0.MinTime 0 1048576)))) (v := (.int .i64 p0.MinFeed))]
 rotate_left
 · rfl
 · simp
 · intro q
   simp [q]
 rw [Xd (c := (bor (bor (bnot (Jb p0.Feed 1 1048576)) (bnot (Jb p0.Travel 1 1048576))) (bnot (Jb p0.MinTime 0 1048576)))) (v := (.ptr 1 0 13))]
 rotate_left
 · rfl
 · simp
 · intro q
   simp [q]
 rw [Xd (c := (bor (bor (bnot (Jb p0.Feed 1 1048576)) (bnot (Jb p0.Travel 1 1048576))) (bnot (Jb p0.MinTime 0 1048576)))) (v := (.int .i64 p0.Feed))]
 rotate_left
 · rfl
 · simp
 · intro q
   simp [q]
 have f17 := Qh p0.MinFeed 1 p0.Feed
 rw [Xd (c := (bor (bor (bnot (Jb p0.Feed 1 1048576)) (bnot (Jb p0.Travel 1 1048576))) (bnot (Jb p0.MinTime 0 1048576)))) (v := (.bool (Jb p0.MinFeed 1 p0.Feed)))]
 rotate_left
 · rfl
 · simp
 · intro q
   simp [q, f17]
 rw [Xd (c := (bor (bor (bnot (Jb p0.Feed 1 1048576)) (bnot (Jb p0.Travel 1 1048576))) (bnot (Jb p0.MinTime 0 1048576)))) (v := (.bool (bnot (Jb p0.MinFeed 1 p0.Feed))))]
 rotate_left
 · rfl
 · simp
 · intro q
   simp [q]
 rw [Q5 (v := (.bool (bor (bor (bor (bnot (Jb p0.Feed 1 1048576)) (bnot (Jb p0.Travel 1 1048576))) (bnot (Jb p0.MinTime 0 1048576))) (bnot (Jb p0.MinFeed 1 p0.Feed)))))]
 rotate_left
 · rfl
 · rcases tof (bor (bor (bnot (Jb p0.Feed 1 1048576)) (bnot (Jb p0.Travel 1 1048576))) (bnot (Jb p0.MinTime 0 1048576))) with q | q <;> simp [q]
 rw [Q5 (v := (.ptr 1 0 18))]
 rotate_left
 · rfl
 · simp []
 rw [Q5 (v := (.int .i64 p0.Nozzle))]
 rotate_left
 · rfl
 · simp []
 have f18 := Qh p0.Nozzle 0 400000
 rw [Q5 (v := (.bool (Jb p0.Nozzle 0 400000)))]
 rotate_left
 · rfl
 · simp [f18]
 rw [Q5 (v := (.bool (bnot (Jb p0.Nozzle 0 400000))))]
 rotate_left
 · rfl
 · simp []
 rw [Q5 (v := (.bool (bnot (Jb p0.Nozzle 0 400000))))]
 rotate_left
 · rfl
 · simp []
 rw [Xd (c := (bnot (Jb p0.Nozzle 0 400000))) (v := (.ptr 1 0 19))]
 rotate_left
 · rfl
 · simp
 · intro q
   simp [q]
 rw [Xd (c := (bnot (Jb p0.Nozzle 0 400000))) (v := (.int .i64 p0.Bed))]
 rotate_left
 · rfl
 · simp
 · intro q
   simp [q]
 have f19 := Qh p0.Bed 0 400000
 rw [Xd (c := (bnot (Jb p0.Nozzle 0 400000))) (v := (.bool (Jb p0.Bed 0 400000)))]
 rotate_left
 · rfl
 · simp
 · intro q
   simp [q, f19]
 rw [Xd (c := (bnot (Jb p0.Nozzle 0 400000))) (v := (.bool (bnot (Jb p0.Bed 0 400000))))]
 rotate_left
 · rfl
 · simp
 · intro q
   simp [q]
 rw [Q5 (v := (.bool (bor (bnot (Jb p0.Nozzle 0 400000)) (bnot (Jb p0.Bed 0 400000)))))]
 rotate_left
 · rfl
 · rcases tof (bnot (Jb p0.Nozzle 0 400000)) with q | q <;> simp [q]
 simp (maxSteps := 4000000) [f1, f2, f3, f4, f5, f6, f7, f8, f9, f10, f11, f12, f13, f14, f15, f16, f17, f18, f19]
/-! flow.Valid -/
attribute [simp] c20_0 c20_1
def Xb (p0 : Jy) : Bool := (band (beqB (((Yj p0)).grid) false) (band (beqB (((Yj p0)).solid) false) (band (beqB (((Yj p0)).pattern) false) (band (beqB (((Yj p0)).around) false) (band (beqB (((Yj p0)).filament) false) (band (beqB (((Yj p0)).speeds) false) (band (beqB (((Yj p0)).heat) false) true)))))))
def t_flow_Valid (p0 : Jy) : Option Bool := some (Xb p0)
theorem Jfh (p0 : Jy) : FC env 20 [.agg [.int .i64 p0.Pitch, .int .i64 p0.Height, .int .i64 p0.Walls, .int .i64 p0.Top, .int .i64 p0.Bottom, .int .i64 p0.Pattern, .int .i64 p0.Spacing, .bool p0.Support, .int .i64 p0.Reach, .int .i64 p0.Gap, .int .i64 p0.Brim, .int .i64 p0.Skirt, .int .i64 p0.Drop, .int .i64 p0.Feed, .int .i64 p0.Travel, .int .i64 p0.Retract, .int .i64 p0.MinTime, .int .i64 p0.MinFeed, .int .i64 p0.Nozzle, .int .i64 p0.Bed]] none = some (.bool (Xb p0), fun _ => none) := by
 unfold Xb
 have f1 := Jke p0
 refine J9 (lf := lf20) rfl rfl rfl ?_
 simp only [lf20, lc20]
 simp (maxSteps := 4000000) [f1]
/-! region.ok -/
attribute [simp] c38_0 c38_1
def Ko (p0 : Int) : Bool := (band (ige p0 (-4096)) (ilt p0 4096))
def t_region_ok (p0 : Int) : Option Bool := some (Ko p0)
theorem Jdw (p0 : Int) : FC env 38 [.int .i64 p0] none = some (.bool (Ko p0), fun _ => none) := by
 unfold Ko
 refine J9 (lf := lf38) rfl rfl rfl ?_
 simp only [lf38, lc38]
 rcases tof (ige p0 (-4096)) with a1 | a1
 · simp (maxSteps := 4000000) [a1]
 · simp (maxSteps := 4000000) [a1]
/-! runs.fits -/
attribute [simp] c57_0 c57_1
def Z6 (p0 : Kg) : Bool := (band (band (band (ige p0.From (-1048576)) (ile p0.From 1048576)) (ige p0.To (-1048576))) (ile p0.To 1048576))
def t_runs_fits (p0 : Kg) : Option Bool := some (Z6 p0)
theorem Jlm (p0 : Kg) : FC env 57 [.agg [.int .i64 p0.From, .int .i64 p0.To]] none = some (.bool (Z6 p0), fun _ => none) := by
 unfold Z6
 refine J9 (lf := lf57) rfl rfl rfl ?_
 simp only [lf57, lc57]
 rcases tof (ige p0.From (-1048576)) with a1 | a1
 · rcases tof (ile p0.From 1048576) with a2 | a2
   · rcases tof (ige p0.To (-1048576)) with a3 | a3
     · simp (maxSteps := 4000000) [a1, a2, a3]
     · simp (maxSteps := 4000000) [a1, a2, a3]
   · simp (maxSteps := 4000000) [a1, a2]
 · simp (maxSteps := 4000000) [a1]
/-! runs.Valid -/
attribute [simp] c39_0 c39_1 c39_2 c39_3 c39_4 c39_5 c39_6 c39_8
theorem c39_L0_u (Γ : Env) (ps : List Nat) (σ : St) : EC Γ ps 0 Jk6 σ = EC Γ ps 0 (.seq (.reg false c39_2) (.seq (.cond (.t 8) .skip (.seq (.trim []) (.exit 0))) (.seq (.blk 1 (.seq (.reg false c39_3) (.seq (.reg true c39_4) (.cond (.t 36) (.seq (.reg false c39_5) (.seq (.trim [2]) .ret)) .skip)))) (.reg false c39_6)))) σ := rfl
attribute [simp ↓] c39_L0_u
def Yo (k0 : (FS Kg)) (k1 : (FS Kg)) (k2 : Int) (s : Int) : Option (LR Int (Bool ⊕ Unit)) := match s with
 | s0 => (if (ilt s0 k2) = true then (match fget k1 s0 with
 | none => none
 | some v4 => (match gOpt (band (bnot (bor (ige v4.From v4.To) (bnot (Z6 v4)))) (igt s0 0)) (fget k0 (isub .i64 s0 1)) with
 | none => none
 | some v8 => (if (bor (bor (ige v4.From v4.To) (bnot (Z6 v4))) (band (igt s0 0) (ile v4.From (((v8.getD (⟨0, 0⟩ : Kg))).To)))) = true then some (.dn (.inl false))
 else some (.nx (iadd .i64 s0 1)))))
 else some (.dn (.inr ())))
def Xy (k0 : (FS Kg)) (k1 : (FS Kg)) (k2 : Int) (s : Int) : St := match s with
 | s0 => ⟨fr [(0, encF Yc k0), (5, encF Yc k1), (6, .int .i64 k2), (7, .int .i64 s0)], hl []⟩
def Y7 (k0 : (FS Kg)) (k1 : (FS Kg)) (k2 : Int) (x : (Bool ⊕ Unit)) : LE × St := match x with
 | .inl x => (.ret, ⟨fr [(2, .bool x)], hl []⟩)
 | .inr x => (.exit 0, ⟨fr [], hl []⟩)
theorem Jhh {k0 : (FS Kg)} {k1 : (FS Kg)} {k2 : Int} {s : Int} {r : (Bool ⊕ Unit)} (h : Ku (Yo k0 k1 k2) bigN s = some r) : LK env [] 0 [0, 5, 6, 7] Jk6 (some (Xy k0 k1 k2 s)) = some (Y7 k0 k1 k2 r) := Q3 (st := Xy k0 k1 k2) (out := Y7 k0 k1 k2) (by
 clear h s r
 rintro s0 x h
 simp only [Yo] at h
 by_cases c1 : (ilt s0 k2) = true
 · rw [if_pos c1] at h
   cases h3 : fget k1 s0 with
   | none => (rw [h3] at h; cases h)
   | some v4 =>
    simp only [h3] at h
    have f2 := K5 (e := Yc) h3
    have f5 := Jlm v4
    cases h7 : gOpt (band (bnot (bor (ige v4.From v4.To) (bnot (Z6 v4)))) (igt s0 0)) (fget k0 (isub .i64 s0 1)) with
    | none => (rw [h7] at h; cases h)
    | some v8 =>
     simp only [h7] at h
     have f6 := fun (q0 : (bor (ige v4.From v4.To) (bnot (Z6 v4))) = false) (q1 : (igt s0 0) = true) => K5 (e := Yc) (Qk (⟨0, 0⟩ : Kg) h7 (Jc5 (Zj q0) q1))
     by_cases c9 : (bor (bor (ige v4.From v4.To) (bnot (Z6 v4))) (band (igt s0 0) (ile v4.From (((v8.getD (⟨0, 0⟩ : Kg))).To)))) = true
     · rw [if_pos c9] at h
       cases h
       show LK env [] 0 [0, 5, 6, 7] Jk6 (some (Xy _ _ _ _)) = some (Y7 _ _ _ _)
       simp only [Xy, Y7]
       rw [J4]
       rcases tof (ige v4.From v4.To) with a10 | a10
       · simp (maxSteps := 4000000) [c1, a10, f2, f5, f6]
       · rcases tof (Z6 v4) with a11 | a11
         · rcases tof (igt s0 0) with a12 | a12
           · rcases tof (ile v4.From (((v8.getD (⟨0, 0⟩ : Kg))).To)) with a13 | a13
             · simp (maxSteps := 4000000) [c1, a10, a11, a12, a13, f2, f5, f6]
             · simp [c1, a10, a11, a12, a13] at c9
           · simp [c1, a10, a11, a12] at c9
         · simp (maxSteps := 4000000) [c1, a10, a11, f2, f5, f6]
     · rw [if_neg c9] at h
       rw [Bool.not_eq_true] at c9
       cases h
       show LK env [] 0 [0, 5, 6, 7] Jk6 (some (Xy _ _ _ _)) = LK env [] 0 [0, 5, 6, 7] Jk6 (some (Xy _ _ _ _))
       simp only [Xy]
       rw [J4]
       rcases tof (ige v4.From v4.To) with a14 | a14
       · simp [c1, a14] at c9
       · rcases tof (Z6 v4) with a15 | a15
         · rcases tof (igt s0 0) with a16 | a16
           · rcases tof (ile v4.From (((v8.getD (⟨0, 0⟩ : Kg))).To)) with a17 | a17
             · simp [c1, a14, a15, a16, a17] at c9
             · simp (maxSteps := 4000000) [c1, a14, a15, a16, a17, f2, f5, f6]
           · simp (maxSteps := 4000000) [c1, a14, a15, a16, f2, f5, f6]
         · simp [c1, a14, a15] at c9
 · rw [if_neg c1] at h
   rw [Bool.not_eq_true] at c1
   cases h
   show LK env [] 0 [0, 5, 6, 7] Jk6 (some (Xy _ _ _ _)) = some (Y7 _ _ _ _)
   simp only [Xy, Y7]
   rw [J4]
   simp (maxSteps := 4000000) [c1]) bigN s r h
def zw (p0 : (FS Kg)) : Option Bool := (match Ku (Yo p0 p0 (flen p0)) bigN 0 with
 | none => none
 | some v11 => (match v11 with
 | .inl v11x => some v11x
 | .inr v11x => some true))
theorem Jfk {p0 : (FS Kg)} {r : Bool} (h : zw p0 = some r) : FC env 39 [encF Yc p0] none = some (.bool r, fun _ => none) := by
 unfold zw at h
 cases h18 : Ku (Yo p0 p0 (flen p0)) bigN 0 with
 | none => (rw [h18] at h; cases h)
 | some v19 =>
  simp only [h18] at h
  have f20 := Jhh h18
  cases v19 with
  | inl v19x =>
   try simp only at h
   simp only [Xy, Y7, J8] at f20
   try simp only [Jj, Ji, Jm, Jw, Jt, Ju, Jv, Js] at f20
   cases h
   refine J9 (lf := lf39) rfl rfl rfl ?_
   simp only [lf39, lc39]
   simp (maxSteps := 4000000) [f20]
  | inr v19x =>
   try simp only at h
   simp only [Xy, Y7, J8] at f20
   try simp only [Jj, Ji, Jm, Jw, Jt, Ju, Jv, Js] at f20
   cases h
   refine J9 (lf := lf39) rfl rfl rfl ?_
   simp only [lf39, lc39]
   simp (maxSteps := 4000000) [f20]

/-! region.Valid -/
attribute [simp] c21_0 c21_1 c21_2 c21_3 c21_4 c21_5 c21_6 c21_7 c21_8 c21_10
theorem c21_L0_u (Γ : Env) (ps : List Nat) (σ : St) : EC Γ ps 0 Ji6 σ = EC Γ ps 0 (.seq (.reg false c21_2) (.seq (.cond (.t 9) .skip (.seq (.trim []) (.exit 0))) (.seq (.blk 1 (.seq (.reg false c21_3) (.seq (.seq (.reg true c21_4) (.cond (.t 44) (.seq (.reg false c21_5) (.seq (.trim [2]) .ret)) .skip)) (.seq (.reg false c21_6) (.cond (.t 65) (.seq (.reg false c21_7) (.seq (.trim [2]) .ret)) .skip))))) (.reg false c21_8)))) σ := rfl
attribute [simp ↓] c21_L0_u
def Yp (k0 : Jk) (k1 : (FS X9)) (k2 : Int) (s : Int) : Option (LR Int (Bool ⊕ Unit)) := match s with
 | s0 => (if (ilt s0 k2) = true then (match fget k1 s0 with
 | none => none
 | some v4 => (match gOpt (band (bnot (bnot (Ko v4.Y))) (igt s0 0)) (fget k0.Rows (isub .i64 s0 1)) with
 | none => none
 | some v8 => (match gOpt (bnot (bor (bor (bnot (Ko v4.Y)) (band (igt s0 0) (ile v4.Y (((v8.getD (⟨0, (FS.nil : (FS Kg))⟩ : X9))).Y)))) (ieq (flen v4.Runs) 0))) (zw v4.Runs) with
 | none => none
 | some v11 => (if (bor (bor (bor (bnot (Ko v4.Y)) (band (igt s0 0) (ile v4.Y (((v8.getD (⟨0, (FS.nil : (FS Kg))⟩ : X9))).Y)))) (ieq (flen v4.Runs) 0)) (bnot (v11.getD false))) = true then some (.dn (.inl false))
 else (match fget v4.Runs 0 with
 | none => none
 | some v15 => (match gOpt (bnot (bnot (Ko v15.From))) (fget v4.Runs (isub .i64 (flen v4.Runs) 1)) with
 | none => none
 | some v19 => (if (bor (bnot (Ko v15.From)) (bnot (Ko (isub .i64 (((v19.getD (⟨0, 0⟩ : Kg))).To) 1)))) = true then some (.dn (.inl false))
 else some (.nx (iadd .i64 s0 1)))))))))
 else some (.dn (.inr ())))
def Ql (k0 : Jk) (k1 : (FS X9)) (k2 : Int) (s : Int) : St := match s with
 | s0 => ⟨fr [(1, .ptr 1 0 0), (6, encF Jl k1), (7, .int .i64 k2), (8, .int .i64 s0)], hl [(1, .box 0 [encF Jl k0.Rows])]⟩
def Xi (k0 : Jk) (k1 : (FS X9)) (k2 : Int) (x : (Bool ⊕ Unit)) : LE × St := match x with
 | .inl x => (.ret, ⟨fr [(2, .bool x)], hl []⟩)
 | .inr x => (.exit 0, ⟨fr [], hl []⟩)
theorem Jgd {k0 : Jk} {k1 : (FS X9)} {k2 : Int} {s : Int} {r : (Bool ⊕ Unit)} (h : Ku (Yp k0 k1 k2) bigN s = some r) : LK env [] 0 [1, 6, 7, 8] Ji6 (some (Ql k0 k1 k2 s)) = some (Xi k0 k1 k2 r) := Q3 (st := Ql k0 k1 k2) (out := Xi k0 k1 k2) (by
 clear h s r
 rintro s0 x h
 simp only [Yp] at h
 by_cases c1 : (ilt s0 k2) = true
 · rw [if_pos c1] at h
   cases h3 : fget k1 s0 with
   | none => (rw [h3] at h; cases h)
   | some v4 =>
    simp only [h3] at h
    have f2 := K5 (e := Jl) h3
    have f5 := Jdw v4.Y
    cases h7 : gOpt (band (bnot (bnot (Ko v4.Y))) (igt s0 0)) (fget k0.Rows (isub .i64 s0 1)) with
    | none => (rw [h7] at h; cases h)
    | some v8 =>
     simp only [h7] at h
     have f6 := fun (q0 : (bnot (Ko v4.Y)) = false) (q1 : (igt s0 0) = true) => K5 (e := Jl) (Qk (⟨0, (FS.nil : (FS Kg))⟩ : X9) h7 (Jc5 (Zj q0) q1))
     cases h10 : gOpt (bnot (bor (bor (bnot (Ko v4.Y)) (band (igt s0 0) (ile v4.Y (((v8.getD (⟨0, (FS.nil : (FS Kg))⟩ : X9))).Y)))) (ieq (flen v4.Runs) 0))) (zw v4.Runs) with
     | none => (rw [h10] at h; cases h)
     | some v11 =>
      simp only [h10] at h
      have f9 := fun (q0 : (bor (bor (bnot (Ko v4.Y)) (band (igt s0 0) (ile v4.Y (((v8.getD (⟨0, (FS.nil : (FS Kg))⟩ : X9))).Y)))) (ieq (flen v4.Runs) 0)) = false) => Jfk (Qk false h10 (Zj q0))
      by_cases c12 : (bor (bor (bor (bnot (Ko v4.Y)) (band (igt s0 0) (ile v4.Y (((v8.getD (⟨0, (FS.nil : (FS Kg))⟩ : X9))).Y)))) (ieq (flen v4.Runs) 0)) (bnot (v11.getD false))) = true
      · rw [if_pos c12] at h
        cases h
        show LK env [] 0 [1, 6, 7, 8] Ji6 (some (Ql _ _ _ _)) = some (Xi _ _ _ _)
        simp only [Ql, Xi]
        rw [J4]
        rcases tof (Ko v4.Y) with a13 | a13
        · rcases tof (igt s0 0) with a14 | a14
          · rcases tof (ile v4.Y (((v8.getD (⟨0, (FS.nil : (FS Kg))⟩ : X9))).Y)) with a15 | a15
            · simp (maxSteps := 4000000) [c1, a13, a14, a15, f2, f5, f6, f9]
            · rcases tof (ieq (flen v4.Runs) 0) with a16 | a16
              · simp (maxSteps := 4000000) [c1, a13, a14, a15, a16, f2, f5, f6, f9]
              · rcases tof (v11.getD false) with a17 | a17
                · simp [c1, a13, a14, a15, a16, a17] at c12
                · simp (maxSteps := 4000000) [c1, a13, a14, a15, a16, a17, f2, f5, f6, f9]
          · rcases tof (ieq (flen v4.Runs) 0) with a18 | a18
            · simp (maxSteps := 4000000) [c1, a13, a14, a18, f2, f5, f6, f9]
            · rcases tof (v11.getD false) with a19 | a19
              · simp [c1, a13, a14, a18, a19] at c12
              · simp (maxSteps := 4000000) [c1, a13, a14, a18, a19, f2, f5, f6, f9]
        · simp (maxSteps := 4000000) [c1, a13, f2, f5, f6, f9]
      · rw [if_neg c12] at h
        rw [Bool.not_eq_true] at c12
        cases h21 : fget v4.Runs 0 with
        | none => (rw [h21] at h; cases h)
        | some v22 =>
         simp only [h21] at h
         have f20 := K5 (e := Yc) h21
         have f23 := Jdw v22.From
         cases h25 : gOpt (bnot (bnot (Ko v22.From))) (fget v4.Runs (isub .i64 (flen v4.Runs) 1)) with
         | none => (rw [h25] at h; cases h)
         | some v26 =>
          simp only [h25] at h
          have f24 := fun (q0 : (bnot (Ko v22.From)) = false) => K5 (e := Yc) (Qk (⟨0, 0⟩ : Kg) h25 (Zj q0))
          have f27 := Jdw (isub .i64 (((v26.getD (⟨0, 0⟩ : Kg))).To) 1)
          by_cases c28 : (bor (bnot (Ko v22.From)) (bnot (Ko (isub .i64 (((v26.getD (⟨0, 0⟩ : Kg))).To) 1)))) = true
          · rw [if_pos c28] at h
            cases h
            show LK env [] 0 [1, 6, 7, 8] Ji6 (some (Ql _ _ _ _)) = some (Xi _ _ _ _)
            simp only [Ql, Xi]
            rw [J4]
            rcases tof (Ko v4.Y) with a29 | a29
            · rcases tof (igt s0 0) with a30 | a30
              · rcases tof (ile v4.Y (((v8.getD (⟨0, (FS.nil : (FS Kg))⟩ : X9))).Y)) with a31 | a31
                · simp [c1, a29, a30, a31] at c12
                · rcases tof (ieq (flen v4.Runs) 0) with a32 | a32
                  · simp [c1, a29, a30, a31, a32] at c12
                  · rcases tof (v11.getD false) with a33 | a33
                    · rcases tof (Ko v22.From) with a34 | a34
                      · rcases tof (Ko (isub .i64 (((v26.getD (⟨0, 0⟩ : Kg))).To) 1)) with a35 | a35
                        · simp [c1, a29, a30, a31, a32, a33, a34, a35] at c28
                        · simp (maxSteps := 4000000) [c1, a29, a30, a31, a32, a33, a34, a35, f2, f5, f6, f9, f20, f23, f24, f27]
                      · simp (maxSteps := 4000000) [c1, a29, a30, a31, a32, a33, a34, f2, f5, f6, f9, f20, f23, f24, f27]
                    · simp [c1, a29, a30, a31, a32, a33] at c12
              · rcases tof (ieq (flen v4.Runs) 0) with a36 | a36
                · simp [c1, a29, a30, a36] at c12
                · rcases tof (v11.getD false) with a37 | a37
                  · rcases tof (Ko v22.From) with a38 | a38
                    · rcases tof (Ko (isub .i64 (((v26.getD (⟨0, 0⟩ : Kg))).To) 1)) with a39 | a39
                      · simp [c1, a29, a30, a36, a37, a38, a39] at c28
                      · simp (maxSteps := 4000000) [c1, a29, a30, a36, a37, a38, a39, f2, f5, f6, f9, f20, f23, f24, f27]
                    · simp (maxSteps := 4000000) [c1, a29, a30, a36, a37, a38, f2, f5, f6, f9, f20, f23, f24, f27]
                  · simp [c1, a29, a30, a36, a37] at c12
            · simp [c1, a29] at c12
          · rw [if_neg c28] at h
            rw [Bool.not_eq_true] at c28
            cases h
            show LK env [] 0 [1, 6, 7, 8] Ji6 (some (Ql _ _ _ _)) = LK env [] 0 [1, 6, 7, 8] Ji6 (some (Ql _ _ _ _))
            simp only [Ql]
            rw [J4]
            rcases tof (Ko v4.Y) with a40 | a40
            · rcases tof (igt s0 0) with a41 | a41
              · rcases tof (ile v4.Y (((v8.getD (⟨0, (FS.nil : (FS Kg))⟩ : X9))).Y)) with a42 | a42
                · simp [c1, a40, a41, a42] at c12
                · rcases tof (ieq (flen v4.Runs) 0) with a43 | a43
                  · simp [c1, a40, a41, a42, a43] at c12
                  · rcases tof (v11.getD false) with a44 | a44
                    · rcases tof (Ko v22.From) with a45 | a45
                      · rcases tof (Ko (isub .i64 (((v26.getD (⟨0, 0⟩ : Kg))).To) 1)) with a46 | a46
                        · simp (maxSteps := 4000000) [c1, a40, a41, a42, a43, a44, a45, a46, f2, f5, f6, f9, f20, f23, f24, f27]
                        · simp [c1, a40, a41, a42, a43, a44, a45, a46] at c28
                      · simp [c1, a40, a41, a42, a43, a44, a45] at c28
                    · simp [c1, a40, a41, a42, a43, a44] at c12
              · rcases tof (ieq (flen v4.Runs) 0) with a47 | a47
                · simp [c1, a40, a41, a47] at c12
                · rcases tof (v11.getD false) with a48 | a48
                  · rcases tof (Ko v22.From) with a49 | a49
                    · rcases tof (Ko (isub .i64 (((v26.getD (⟨0, 0⟩ : Kg))).To) 1)) with a50 | a50
                      · simp (maxSteps := 4000000) [c1, a40, a41, a47, a48, a49, a50, f2, f5, f6, f9, f20, f23, f24, f27]
                      · simp [c1, a40, a41, a47, a48, a49, a50] at c28
                    · simp [c1, a40, a41, a47, a48, a49] at c28
                  · simp [c1, a40, a41, a47, a48] at c12
            · simp [c1, a40] at c12
 · rw [if_neg c1] at h
   rw [Bool.not_eq_true] at c1
   cases h
   show LK env [] 0 [1, 6, 7, 8] Ji6 (some (Ql _ _ _ _)) = some (Xi _ _ _ _)
   simp only [Ql, Xi]
   rw [J4]
   simp (maxSteps := 4000000) [c1]) bigN s r h
def js (p0 : Jk) : Option Bool := (match Ku (Yp p0 p0.Rows (flen p0.Rows)) bigN 0 with
 | none => none
 | some v23 => (match v23 with
 | .inl v23x => some v23x
 | .inr v23x => some true))
theorem Jeg {p0 : Jk} {r : Bool} (h : js p0 = some r) : FC env 21 [.agg [encF Jl p0.Rows]] none = some (.bool r, fun _ => none) := by
 unfold js at h
 cases h51 : Ku (Yp p0 p0.Rows (flen p0.Rows)) bigN 0 with
 | none => (rw [h51] at h; cases h)
 | some v52 =>
  simp only [h51] at h
  have f53 := Jgd h51
  cases v52 with
  | inl v52x =>
   try simp only at h
   simp only [Ql, Xi, J8] at f53
   try simp only [Jj, Ji, Jm, Jw, Jt, Ju, Jv, Js] at f53
   cases h
   refine J9 (lf := lf21) rfl rfl rfl ?_
   simp only [lf21, lc21]
   simp (maxSteps := 4000000) [f53]
  | inr v52x =>
   try simp only at h
   simp only [Ql, Xi, J8] at f53
   try simp only [Jj, Ji, Jm, Jw, Jt, Ju, Jv, Js] at f53
   cases h
   refine J9 (lf := lf21) rfl rfl rfl ?_
   simp only [lf21, lc21]
   simp (maxSteps := 4000000) [f53]

/-! toolpath.ok -/
attribute [simp] c22_0 c22_1
def Zd (p0 : Ja) : Bool := (band (band (band (ige p0.X (-4096)) (ilt p0.X 4096)) (ige p0.Y (-4096))) (ilt p0.Y 4096))
def t_toolpath_ok (p0 : Ja) : Option Bool := some (Zd p0)
theorem Jjd (p0 : Ja) : FC env 22 [.agg [.int .i64 p0.X, .int .i64 p0.Y]] none = some (.bool (Zd p0), fun _ => none) := by
 unfold Zd
 refine J9 (lf := lf22) rfl rfl rfl ?_
 simp only [lf22, lc22]
 rcases tof (ige p0.X (-4096)) with a1 | a1
 · rcases tof (ilt p0.X 4096) with a2 | a2
   · rcases tof (ige p0.Y (-4096)) with a3 | a3
     · simp (maxSteps := 4000000) [a1, a2, a3]
     · simp (maxSteps := 4000000) [a1, a2, a3]
   · simp (maxSteps := 4000000) [a1, a2]
 · simp (maxSteps := 4000000) [a1]
/-! track.onGrid -/
attribute [simp] c40_0 c40_1
def Ye (p0 : Ja) : Bool := (band (band (band (ige p0.X (-4096)) (ilt p0.X 4096)) (ige p0.Y (-4096))) (ilt p0.Y 4096))
def t_track_onGrid (p0 : Ja) : Option Bool := some (Ye p0)
theorem Jh9 (p0 : Ja) : FC env 40 [.agg [.int .i64 p0.X, .int .i64 p0.Y]] none = some (.bool (Ye p0), fun _ => none) := by
 unfold Ye
 refine J9 (lf := lf40) rfl rfl rfl ?_
 simp only [lf40, lc40]
 rcases tof (ige p0.X (-4096)) with a1 | a1
 · rcases tof (ilt p0.X 4096) with a2 | a2
   · rcases tof (ige p0.Y (-4096)) with a3 | a3
     · simp (maxSteps := 4000000) [a1, a2, a3]
     · simp (maxSteps := 4000000) [a1, a2, a3]
   · simp (maxSteps := 4000000) [a1, a2]
 · simp (maxSteps := 4000000) [a1]
/-! track.neighbors -/
attribute [simp] c41_0 c41_1 c41_2
def Xu (p0 : Ja) (p1 : Ja) : Bool := (ieq (iadd .i64 (imul .i64 (isub .i64 p0.X p1.X) (isub .i64 p0.X p1.X)) (imul .i64 (isub .i64 p0.Y p1.Y) (isub .i64 p0.Y p1.Y))) 1)
def Jtr (p0 : Ja) (p1 : Ja) : Option Bool := some (Xu p0 p1)
theorem Jcb (p0 : Ja) (p1 : Ja) : FC env 41 [.agg [.int .i64 p0.X, .int .i64 p0.Y], .agg [.int .i64 p1.X, .int .i64 p1.Y]] none = some (.bool (Xu p0 p1), fun _ => none) := by
 unfold Xu
 refine J9 (lf := lf41) rfl rfl rfl ?_
 simp only [lf41, lc41]
 simp (maxSteps := 4000000) []
/-! track.Valid -/
attribute [simp] c23_0 c23_1 c23_2 c23_3 c23_4 c23_5 c23_6 c23_7 c23_8 c23_9 c23_11
theorem c23_L0_u (Γ : Env) (ps : List Nat) (σ : St) : EC Γ ps 0 Jkp σ = EC Γ ps 0 (.seq (.reg false c23_5) (.seq (.cond (.t 29) .skip (.seq (.trim [1, 3]) (.exit 0))) (.seq (.blk 1 (.seq (.reg false c23_6) (.seq (.reg true c23_7) (.cond (.t 50) (.seq (.reg false c23_8) (.seq (.trim [2]) .ret)) .skip)))) (.reg false c23_9)))) σ := rfl
attribute [simp ↓] c23_L0_u
def Zq (k0 : Jc) (k1 : Int) (k2 : (FS Ja)) (k3 : Int) (s : Int) : Option (LR Int (Bool ⊕ Unit)) := match s with
 | s0 => (if (ilt s0 k3) = true then (match fget k2 s0 with
 | none => none
 | some v5 => (match gOpt (band (bnot (bnot (Ye v5))) (igt s0 0)) (fget k0.Cells (isub .i64 s0 1)) with
 | none => none
 | some v9 => (if (bor (bnot (Ye v5)) (band (igt s0 0) (bnot (Xu (v9.getD (⟨0, 0⟩ : Ja)) v5)))) = true then some (.dn (.inl false))
 else some (.nx (iadd .i64 s0 1)))))
 else some (.dn (.inr ())))
def Xl (k0 : Jc) (k1 : Int) (k2 : (FS Ja)) (k3 : Int) (s : Int) : St := match s with
 | s0 => ⟨fr [(1, .ptr 1 0 0), (3, .int .i64 k1), (26, encF Jh k2), (27, .int .i64 k3), (28, .int .i64 s0)], hl [(1, .box 0 [.int .i64 k0.Role, .bool k0.Closed, encF Jh k0.Cells])]⟩
def Yv (k0 : Jc) (k1 : Int) (k2 : (FS Ja)) (k3 : Int) (x : (Bool ⊕ Unit)) : LE × St := match x with
 | .inl x => (.ret, ⟨fr [(2, .bool x)], hl []⟩)
 | .inr x => (.exit 0, ⟨fr [(1, .ptr 1 0 0), (3, .int .i64 k1)], hl [(1, .box 0 [.int .i64 k0.Role, .bool k0.Closed, encF Jh k0.Cells])]⟩)
theorem Jgw {k0 : Jc} {k1 : Int} {k2 : (FS Ja)} {k3 : Int} {s : Int} {r : (Bool ⊕ Unit)} (h : Ku (Zq k0 k1 k2 k3) bigN s = some r) : LK env [] 0 [1, 3, 26, 27, 28] Jkp (some (Xl k0 k1 k2 k3 s)) = some (Yv k0 k1 k2 k3 r) := Q3 (st := Xl k0 k1 k2 k3) (out := Yv k0 k1 k2 k3) (by
 clear h s r
 rintro s0 x h
 simp only [Zq] at h
 by_cases c6 : (ilt s0 k3) = true
 · rw [if_pos c6] at h
   cases h8 : fget k2 s0 with
   | none => (rw [h8] at h; cases h)
   | some v9 =>
    simp only [h8] at h
    have f7 := K5 (e := Jh) h8
    have f10 := Jh9 v9
    cases h12 : gOpt (band (bnot (bnot (Ye v9))) (igt s0 0)) (fget k0.Cells (isub .i64 s0 1)) with
    | none => (rw [h12] at h; cases h)
    | some v13 =>
     simp only [h12] at h
     have f11 := fun (q0 : (bnot (Ye v9)) = false) (q1 : (igt s0 0) = true) => K5 (e := Jh) (Qk (⟨0, 0⟩ : Ja) h12 (Jc5 (Zj q0) q1))
     have f14 := Jcb (v13.getD (⟨0, 0⟩ : Ja)) v9
     by_cases c15 : (bor (bnot (Ye v9)) (band (igt s0 0) (bnot (Xu (v13.getD (⟨0, 0⟩ : Ja)) v9)))) = true
     · rw [if_pos c15] at h
       cases h
       show LK env [] 0 [1, 3, 26, 27, 28] Jkp (some (Xl _ _ _ _ _)) = some (Yv _ _ _ _ _)
       simp only [Xl, Yv]
       rw [J4]
       rcases tof (Ye v9) with a16 | a16
       · rcases tof (igt s0 0) with a17 | a17
         · rcases tof (Xu (v13.getD (⟨0, 0⟩ : Ja)) v9) with a18 | a18
           · simp [c6, a16, a17, a18] at c15
           · simp (maxSteps := 4000000) [c6, a16, a17, a18, f7, f10, f11, f14]
         · simp [c6, a16, a17] at c15
       · simp (maxSteps := 4000000) [c6, a16, f7, f10, f11, f14]
     · rw [if_neg c15] at h
       rw [Bool.not_eq_true] at c15
       cases h
       show LK env [] 0 [1, 3, 26, 27, 28] Jkp (some (Xl _ _ _ _ _)) = LK env [] 0 [1, 3, 26, 27, 28] Jkp (some (Xl _ _ _ _ _))
       simp only [Xl]
       rw [J4]
       rcases tof (Ye v9) with a19 | a19
       · rcases tof (igt s0 0) with a20 | a20
         · rcases tof (Xu (v13.getD (⟨0, 0⟩ : Ja)) v9) with a21 | a21
           · simp (maxSteps := 4000000) [c6, a19, a20, a21, f7, f10, f11, f14]
           · simp [c6, a19, a20, a21] at c15
         · simp (maxSteps := 4000000) [c6, a19, a20, f7, f10, f11, f14]
       · simp [c6, a19] at c15
 · rw [if_neg c6] at h
   rw [Bool.not_eq_true] at c6
   cases h
   show LK env [] 0 [1, 3, 26, 27, 28] Jkp (some (Xl _ _ _ _ _)) = some (Yv _ _ _ _ _)
   simp only [Xl, Yv]
   rw [J4]
   simp (maxSteps := 4000000) [c6]) bigN s r h
def Y4 (p0 : Jc) : Option Bool := (if (bor (bor (bor (ilt p0.Role 1) (igt p0.Role 7)) (ilt (flen p0.Cells) 1)) (igt (flen p0.Cells) 65536)) = true then some false
 else (match Ku (Zq p0 (flen p0.Cells) p0.Cells (flen p0.Cells)) bigN 0 with
 | none => none
 | some v13 => (match v13 with
 | .inl v13x => some v13x
 | .inr v13x => (match gOpt (bnot (bor (bnot p0.Closed) (ieq (flen p0.Cells) 1))) (fget p0.Cells (isub .i64 (flen p0.Cells) 1)) with
 | none => none
 | some v17 => (match gOpt (bnot (bor (bnot p0.Closed) (ieq (flen p0.Cells) 1))) (fget p0.Cells 0) with
 | none => none
 | some v20 => some (bor (bor (bnot p0.Closed) (ieq (flen p0.Cells) 1)) (Xu (v17.getD (⟨0, 0⟩ : Ja)) (v20.getD (⟨0, 0⟩ : Ja)))))))))
theorem Jap {p0 : Jc} {r : Bool} (h : Y4 p0 = some r) : FC env 23 [.agg [.int .i64 p0.Role, .bool p0.Closed, encF Jh p0.Cells]] none = some (.bool r, fun _ => none) := by
 unfold Y4 at h
 by_cases c1 : (bor (bor (bor (ilt p0.Role 1) (igt p0.Role 7)) (ilt (flen p0.Cells) 1)) (igt (flen p0.Cells) 65536)) = true
 · rw [if_pos c1] at h
   cases h
   refine J9 (lf := lf23) rfl rfl rfl ?_
   simp only [lf23, lc23]
   rcases tof (ilt p0.Role 1) with a2 | a2
   · simp (maxSteps := 4000000) [a2]
   · rcases tof (igt p0.Role 7) with a3 | a3
     · simp (maxSteps := 4000000) [a2, a3]
     · rcases tof (ilt (flen p0.Cells) 1) with a4 | a4
       · simp (maxSteps := 4000000) [a2, a3, a4]
       · rcases tof (igt (flen p0.Cells) 65536) with a5 | a5
         · simp (maxSteps := 4000000) [a2, a3, a4, a5]
         · simp [a2, a3, a4, a5] at c1
 · rw [if_neg c1] at h
   rw [Bool.not_eq_true] at c1
   cases h22 : Ku (Zq p0 (flen p0.Cells) p0.Cells (flen p0.Cells)) bigN 0 with
   | none => (rw [h22] at h; cases h)
   | some v23 =>
    simp only [h22] at h
    have f24 := Jgw h22
    cases v23 with
    | inl v23x =>
     try simp only at h
     simp only [Xl, Yv, J8] at f24
     try simp only [Jj, Ji, Jm, Jw, Jt, Ju, Jv, Js] at f24
     cases h
     refine J9 (lf := lf23) rfl rfl rfl ?_
     simp only [lf23, lc23]
     rcases tof (ilt p0.Role 1) with a26 | a26
     · simp [a26] at c1
     · rcases tof (igt p0.Role 7) with a27 | a27
       · simp [a26, a27] at c1
       · rcases tof (ilt (flen p0.Cells) 1) with a28 | a28
         · simp [a26, a27, a28] at c1
         · rcases tof (igt (flen p0.Cells) 65536) with a29 | a29
           · simp [a26, a27, a28, a29] at c1
           · try simp only [a26, a27, a28, a29] at f24
             simp (maxSteps := 4000000) [a26, a27, a28, a29, f24]
    | inr v23x =>
     try simp only at h
     simp only [Xl, Yv, J8] at f24
     try simp only [Jj, Ji, Jm, Jw, Jt, Ju, Jv, Js] at f24
     cases h32 : gOpt (bnot (bor (bnot p0.Closed) (ieq (flen p0.Cells) 1))) (fget p0.Cells (isub .i64 (flen p0.Cells) 1)) with
     | none => (rw [h32] at h; cases h)
     | some v33 =>
      simp only [h32] at h
      have f31 := fun (q0 : (bor (bnot p0.Closed) (ieq (flen p0.Cells) 1)) = false) => K5 (e := Jh) (Qk (⟨0, 0⟩ : Ja) h32 (Zj q0))
      cases h35 : gOpt (bnot (bor (bnot p0.Closed) (ieq (flen p0.Cells) 1))) (fget p0.Cells 0) with
      | none => (rw [h35] at h; cases h)
      | some v36 =>
       simp only [h35] at h
       have f34 := fun (q0 : (bor (bnot p0.Closed) (ieq (flen p0.Cells) 1)) = false) => K5 (e := Jh) (Qk (⟨0, 0⟩ : Ja) h35 (Zj q0))
       have f37 := Jcb (v33.getD (⟨0, 0⟩ : Ja)) (v36.getD (⟨0, 0⟩ : Ja))
       cases h
       refine J9 (lf := lf23) rfl rfl rfl ?_
       simp only [lf23, lc23]
       rcases tof (ilt p0.Role 1) with a38 | a38
       · simp [a38] at c1
       · rcases tof (igt p0.Role 7) with a39 | a39
         · simp [a38, a39] at c1
         · rcases tof (ilt (flen p0.Cells) 1) with a40 | a40
           · simp [a38, a39, a40] at c1
           · rcases tof (igt (flen p0.Cells) 65536) with a41 | a41
             · simp [a38, a39, a40, a41] at c1
             · rcases tof p0.Closed with a42 | a42
               · rcases tof (ieq (flen p0.Cells) 1) with a43 | a43
                 · try simp only [a42] at f24 f31 f34 f37
                   try simp only [a38, a39, a40, a41, a42, a43] at f24
                   simp (maxSteps := 4000000) [a38, a39, a40, a41, a42, a43, f24, f31, f34, f37]
                 · try simp only [a42] at f24 f31 f34 f37
                   try simp only [a38, a39, a40, a41, a42, a43] at f24
                   simp (maxSteps := 4000000) [a38, a39, a40, a41, a42, a43, f24, f31, f34, f37]
               · try simp only [a42] at f24 f31 f34 f37
                 try simp only [a38, a39, a40, a41, a42] at f24
                 simp (maxSteps := 4000000) [a38, a39, a40, a41, a42, f24, f31, f34, f37]

/-! toolpath.list).add -/
attribute [simp] c24_0 c24_1
def Je (p0 : Jd) (p1 : Jr) : Option Jd := (if fits 64 ((flen p0.list.ops) + 1) = true then some (⟨(⟨(Zy p0.list.ops p1)⟩ : Jp), p0.r, p0.s, p0.nozzle⟩ : Jd) else none)
theorem Ky {p0 : Jd} {p1 : Jr} (e000 : p0.list.ops = FS.nil) {r : Jd} (h : Je p0 p1 = some r) : FC env 24 [.ptr 0 0 0, .agg [.int .i64 p1.Kind, .int .i64 p1.Role, .int .i64 p1.Layer, .int .i64 p1.Z, .int .i64 p1.Speed, encF Jh p1.Cells]] (some (hl [(0, .box 0 [.nils, encF Jl p0.r.Rows, .int .i64 p0.s.Pitch, .int .i64 p0.s.Height, .int .i64 p0.s.Walls, .int .i64 p0.s.Top, .int .i64 p0.s.Bottom, .int .i64 p0.s.Pattern, .int .i64 p0.s.Spacing, .bool p0.s.Support, .int .i64 p0.s.Reach, .int .i64 p0.s.Gap, .int .i64 p0.s.Brim, .int .i64 p0.s.Skirt, .int .i64 p0.s.Drop, .int .i64 p0.s.Feed, .int .i64 p0.s.Travel, .int .i64 p0.s.Retract, .int .i64 p0.s.MinTime, .int .i64 p0.s.MinFeed, .int .i64 p0.s.Nozzle, .int .i64 p0.s.Bed, .int .i64 p0.nozzle.X, .int .i64 p0.nozzle.Y])], 0)) = some (.tup [], hl [(0, .box 0 [.arr 1000000 0 0 r.list.ops.l.length, encF Jl r.r.Rows, .int .i64 r.s.Pitch, .int .i64 r.s.Height, .int .i64 r.s.Walls, .int .i64 r.s.Top, .int .i64 r.s.Bottom, .int .i64 r.s.Pattern, .int .i64 r.s.Spacing, .bool r.s.Support, .int .i64 r.s.Reach, .int .i64 r.s.Gap, .int .i64 r.s.Brim, .int .i64 r.s.Skirt, .int .i64 r.s.Drop, .int .i64 r.s.Feed, .int .i64 r.s.Travel, .int .i64 r.s.Retract, .int .i64 r.s.MinTime, .int .i64 r.s.MinFeed, .int .i64 r.s.Nozzle, .int .i64 r.s.Bed, .int .i64 r.nozzle.X, .int .i64 r.nozzle.Y]), (1000000, .arr 0 6 40 (Jn Jz r.list.ops.l) false)]) ∧ ∃ l, r.list.ops = FS.lst l := by
 unfold Je at h
 simp only [e000, J3] at h
 by_cases h2 : fits 64 (0 + 1) = true
 · rw [if_pos h2] at h
   have f1 := fun H g0 hg y => @Jds _ _ Jz _ p1 64 h2 (by decide) H g0 40 y hg
   simp only [Jz] at f1
   cases h
   refine ⟨?_, by first | exact ⟨_, rfl⟩ | exact ⟨_, by assumption⟩⟩
   refine Zr (lf := lf24) rfl rfl rfl ?_
   simp only [lf24, lc24]
   simp (maxSteps := 4000000) [e000, f1]
 · rw [if_neg h2] at h; cases h
theorem Jx {p0 : Jd} {p1 : Jr} {le000 : List Jr} (e000 : p0.list.ops = FS.lst le000) {r : Jd} (h : Je p0 p1 = some r) : FC env 24 [.ptr 0 0 0, .agg [.int .i64 p1.Kind, .int .i64 p1.Role, .int .i64 p1.Layer, .int .i64 p1.Z, .int .i64 p1.Speed, encF Jh p1.Cells]] (some (hl [(0, .box 0 [.arr 1000000 0 0 p0.list.ops.l.length, encF Jl p0.r.Rows, .int .i64 p0.s.Pitch, .int .i64 p0.s.Height, .int .i64 p0.s.Walls, .int .i64 p0.s.Top, .int .i64 p0.s.Bottom, .int .i64 p0.s.Pattern, .int .i64 p0.s.Spacing, .bool p0.s.Support, .int .i64 p0.s.Reach, .int .i64 p0.s.Gap, .int .i64 p0.s.Brim, .int .i64 p0.s.Skirt, .int .i64 p0.s.Drop, .int .i64 p0.s.Feed, .int .i64 p0.s.Travel, .int .i64 p0.s.Retract, .int .i64 p0.s.MinTime, .int .i64 p0.s.MinFeed, .int .i64 p0.s.Nozzle, .int .i64 p0.s.Bed, .int .i64 p0.nozzle.X, .int .i64 p0.nozzle.Y]), (1000000, .arr 0 6 40 (Jn Jz p0.list.ops.l) false)], 0)) = some (.tup [], hl [(0, .box 0 [.arr 1000000 0 0 r.list.ops.l.length, encF Jl r.r.Rows, .int .i64 r.s.Pitch, .int .i64 r.s.Height, .int .i64 r.s.Walls, .int .i64 r.s.Top, .int .i64 r.s.Bottom, .int .i64 r.s.Pattern, .int .i64 r.s.Spacing, .bool r.s.Support, .int .i64 r.s.Reach, .int .i64 r.s.Gap, .int .i64 r.s.Brim, .int .i64 r.s.Skirt, .int .i64 r.s.Drop, .int .i64 r.s.Feed, .int .i64 r.s.Travel, .int .i64 r.s.Retract, .int .i64 r.s.MinTime, .int .i64 r.s.MinFeed, .int .i64 r.s.Nozzle, .int .i64 r.s.Bed, .int .i64 r.nozzle.X, .int .i64 r.nozzle.Y]), (1000000, .arr 0 6 40 (Jn Jz r.list.ops.l) false)]) ∧ ∃ l, r.list.ops = FS.lst l := by
 unfold Je at h
 simp only [e000, J3] at h
 by_cases h2 : fits 64 ((flen (FS.lst le000)) + 1) = true
 · rw [if_pos h2] at h
   have f1 := fun g0 H y => @j9 _ _ Jz _ (FS.lst le000) p1 64 h2 (by decide) g0 H 1000000 0 40 y
   simp only [Jz] at f1
   cases h
   refine ⟨?_, by first | exact ⟨_, rfl⟩ | exact ⟨_, by assumption⟩⟩
   refine Zr (lf := lf24) rfl rfl rfl ?_
   simp only [lf24, lc24]
   simp (maxSteps := 4000000) [e000, f1]
 · rw [if_neg h2] at h; cases h

/-! order.onGrid -/
attribute [simp] c58_0 c58_1
def Qv (p0 : Ja) : Bool := (band (band (band (ige p0.X (-4096)) (ilt p0.X 4096)) (ige p0.Y (-4096))) (ilt p0.Y 4096))
def t_order_onGrid (p0 : Ja) : Option Bool := some (Qv p0)
theorem Jdy (p0 : Ja) : FC env 58 [.agg [.int .i64 p0.X, .int .i64 p0.Y]] none = some (.bool (Qv p0), fun _ => none) := by
 unfold Qv
 refine J9 (lf := lf58) rfl rfl rfl ?_
 simp only [lf58, lc58]
 rcases tof (ige p0.X (-4096)) with a1 | a1
 · rcases tof (ilt p0.X 4096) with a2 | a2
   · rcases tof (ige p0.Y (-4096)) with a3 | a3
     · simp (maxSteps := 4000000) [a1, a2, a3]
     · simp (maxSteps := 4000000) [a1, a2, a3]
   · simp (maxSteps := 4000000) [a1, a2]
 · simp (maxSteps := 4000000) [a1]
/-! order.copied -/
attribute [simp] c73_0 c73_1
def z6 (p0 : Jc) : Option Jc := (if fits 16 ((flen (flit ([] : List Ja))) + (flen p0.Cells)) = true then some (⟨p0.Role, p0.Closed, (fapp (flit ([] : List Ja)) p0.Cells)⟩ : Jc) else none)
theorem Jd8 {p0 : Jc} {r : Jc} (h : z6 p0 = some r) : FC env 73 [.agg [.int .i64 p0.Role, .bool p0.Closed, encF Jh p0.Cells]] none = some (.agg [.int .i64 r.Role, .bool r.Closed, encF Jh r.Cells], fun _ => none) := by
 unfold z6 at h
 have f1 : ∀ (H : Heap) (g0 : Nat), bslV H g0 0 2 27 (some []) = some (.arr g0 (K7 H g0) 0 (flit ([] : List Ja)).l.length, upd H g0 (some (.arr (K7 H g0) 2 27 (Jn Jh (flit ([] : List Ja)).l) false))) := fun H g0 => rfl
 by_cases h3 : fits 16 ((flen (flit ([] : List Ja))) + (flen p0.Cells)) = true
 · rw [if_pos h3] at h
   have f2 := fun g0 H => @Jb4 _ _ Jh _ (flit ([] : List Ja)) p0.Cells 16 h3 (by decide) g0 H 7 0 27
   cases h
   refine J9 (lf := lf73) rfl rfl rfl ?_
   simp only [lf73, lc73]
   simp (maxSteps := 4000000) [f1, f2, Yd (e := Jh) (el := 27) (fz := false)]
 · rw [if_neg h3] at h; cases h

/-! order.valid -/
attribute [simp] c59_0 c59_1 c59_2 c59_3 c59_4 c59_5 c59_6 c59_7 c59_9
theorem c59_L0_u (Γ : Env) (ps : List Nat) (σ : St) : EC Γ ps 0 Jeb σ = EC Γ ps 0 (.seq (.reg false c59_3) (.seq (.cond (.t 9) .skip (.seq (.trim [3]) (.exit 0))) (.seq (.blk 1 (.seq (.reg false c59_4) (.seq (.reg false c59_5) (.cond (.t 13) (.reg false c59_6) .skip)))) (.reg false c59_7)))) σ := rfl
attribute [simp ↓] c59_L0_u
def j6 (k0 : (FS Jc)) (k1 : Int) (s : ((FS Jc) × Int)) : Option (LR ((FS Jc) × Int) (FS Jc)) := match s with
 | (s0, s1) => (if (ilt s1 k1) = true then (match fget k0 s1 with
 | none => none
 | some v4 => (match Y4 v4 with
 | none => none
 | some v7 => (if v7 = true then (match z6 v4 with
 | none => none
 | some v11 => (if fits 40 ((flen s0) + 1) = true then some (.nx ((Zy s0 v11), (iadd .i64 s1 1))) else none))
 else some (.nx (s0, (iadd .i64 s1 1))))))
 else some (.dn s0))
def Kq (k0 : (FS Jc)) (k1 : Int) (s : ((FS Jc) × Int)) : St := match s with
 | (s0, s1) => (Jab s0 (⟨fr [(3, .nils), (6, encF Jg k0), (7, .int .i64 k1), (8, .int .i64 s1)], hl []⟩)
  (fun l0 => ⟨fr [(3, .arr 3 0 0 l0.l.length), (6, encF Jg k0), (7, .int .i64 k1), (8, .int .i64 s1)], hl [(3, .arr 0 3 50 (Jn Jg l0.l) false)]⟩))
def Zl (k0 : (FS Jc)) (k1 : Int) (x : (FS Jc)) : LE × St := (Jab x (.exit 0, ⟨fr [(3, .nils)], hl []⟩)
  (fun l0 => (.exit 0, ⟨fr [(3, .arr 3 0 0 l0.l.length)], hl [(3, .arr 0 3 50 (Jn Jg l0.l) false)]⟩)))
theorem Jg3 {k0 : (FS Jc)} {k1 : Int} {s : ((FS Jc) × Int)} {r : (FS Jc)} (h : Ku (j6 k0 k1) bigN s = some r) : LK env [] 0 [3, 6, 7, 8] Jeb (some (Kq k0 k1 s)) = some (Zl k0 k1 r) := Q3 (st := Kq k0 k1) (out := Zl k0 k1) (by
 clear h s r
 rintro ⟨s0, s1⟩ x h
 simp only [j6] at h
 cases e2 : s0 with
 | nil =>
  try simp only [e2, J3] at h
  by_cases c3 : (ilt s1 k1) = true
  · rw [if_pos c3] at h
    cases h5 : fget k0 s1 with
    | none => (rw [h5] at h; cases h)
    | some v6 =>
     simp only [h5] at h
     have f4 := K5 (e := Jg) h5
     cases h8 : Y4 v6 with
     | none => (rw [h8] at h; cases h)
     | some v9 =>
      simp only [h8] at h
      have f7 := Jap h8
      by_cases c10 : v9 = true
      · rw [if_pos c10] at h
        cases h12 : z6 v6 with
        | none => (rw [h12] at h; cases h)
        | some v13 =>
         simp only [h12] at h
         have f11 := Jd8 h12
         by_cases h15 : fits 40 (0 + 1) = true
         · rw [if_pos h15] at h
           have f14 := fun H g0 hg y => @Jds _ _ Jg _ v13 40 h15 (by decide) H g0 50 y hg
           simp only [Jg] at f14
           cases h
           show LK env [] 0 [3, 6, 7, 8] Jeb (some (Kq _ _ _)) = LK env [] 0 [3, 6, 7, 8] Jeb (some (Kq _ _ _))
           simp only [Kq, e2]
           rw [J4]
           simp (maxSteps := 4000000) [c3, c10, e2, f4, f7, f11, f14]
         · rw [if_neg h15] at h; cases h
      · rw [if_neg c10] at h
        rw [Bool.not_eq_true] at c10
        cases h
        show LK env [] 0 [3, 6, 7, 8] Jeb (some (Kq _ _ _)) = LK env [] 0 [3, 6, 7, 8] Jeb (some (Kq _ _ _))
        simp only [Kq, e2]
        rw [J4]
        simp (maxSteps := 4000000) [c3, c10, e2, f4, f7]
  · rw [if_neg c3] at h
    rw [Bool.not_eq_true] at c3
    cases h
    show LK env [] 0 [3, 6, 7, 8] Jeb (some (Kq _ _ _)) = some (Zl _ _ _)
    simp only [Kq, Zl, e2]
    rw [J4]
    simp (maxSteps := 4000000) [c3, e2]
 | lst l1 =>
  try simp only [e2] at h
  by_cases c16 : (ilt s1 k1) = true
  · rw [if_pos c16] at h
    cases h18 : fget k0 s1 with
    | none => (rw [h18] at h; cases h)
    | some v19 =>
     simp only [h18] at h
     have f17 := K5 (e := Jg) h18
     cases h21 : Y4 v19 with
     | none => (rw [h21] at h; cases h)
     | some v22 =>
      simp only [h21] at h
      have f20 := Jap h21
      by_cases c23 : v22 = true
      · rw [if_pos c23] at h
        cases h25 : z6 v19 with
        | none => (rw [h25] at h; cases h)
        | some v26 =>
         simp only [h25] at h
         have f24 := Jd8 h25
         by_cases h28 : fits 40 ((flen (FS.lst l1)) + 1) = true
         · rw [if_pos h28] at h
           have f27 := fun g0 H y => @j9 _ _ Jg _ (FS.lst l1) v26 40 h28 (by decide) g0 H 3 0 50 y
           simp only [Jg] at f27
           cases h
           show LK env [] 0 [3, 6, 7, 8] Jeb (some (Kq _ _ _)) = LK env [] 0 [3, 6, 7, 8] Jeb (some (Kq _ _ _))
           simp only [Kq, e2]
           rw [J4]
           simp (maxSteps := 4000000) [c16, c23, e2, f17, f20, f24, f27]
         · rw [if_neg h28] at h; cases h
      · rw [if_neg c23] at h
        rw [Bool.not_eq_true] at c23
        cases h
        show LK env [] 0 [3, 6, 7, 8] Jeb (some (Kq _ _ _)) = LK env [] 0 [3, 6, 7, 8] Jeb (some (Kq _ _ _))
        simp only [Kq, e2]
        rw [J4]
        simp (maxSteps := 4000000) [c16, c23, e2, f17, f20]
  · rw [if_neg c16] at h
    rw [Bool.not_eq_true] at c16
    cases h
    show LK env [] 0 [3, 6, 7, 8] Jeb (some (Kq _ _ _)) = some (Zl _ _ _)
    simp only [Kq, Zl, e2]
    rw [J4]
    simp (maxSteps := 4000000) [c16, e2]) bigN s r h
def zx (p0 : (FS Jc)) : Option (FS Jc) := (match Ku (j6 p0 (flen p0)) bigN ((FS.nil : (FS Jc)), 0) with
 | none => none
 | some v15 => some v15)
theorem Je3 {p0 : (FS Jc)} {r : (FS Jc)} (h : zx p0 = some r) : FC env 59 [encF Jg p0] (some (hl [], 0)) = (Jab r (some (.nils, hl []))
  (fun l0 => (some (.arr 700000 0 0 l0.l.length, hl [(700000, .arr 0 3 50 (Jn Jg l0.l) false)])))) := by
 unfold zx at h
 cases h29 : Ku (j6 p0 (flen p0)) bigN ((FS.nil : (FS Jc)), 0) with
 | none => (rw [h29] at h; cases h)
 | some v30 =>
  simp only [h29] at h
  have f31 := Jg3 h29
  simp only [Kq, Zl, J8] at f31
  cases e34 : v30 with
  | nil =>
   try simp only [e34, J3] at h
   simp only [e34, J3, Jj, Ji] at f31
   cases h
   refine Zr (lf := lf59) rfl rfl rfl ?_
   simp only [lf59, lc59]
   simp (maxSteps := 4000000) [f31, e34]
   all_goals first | rfl | exact ⟨rfl, rfl⟩
  | lst l33 =>
   try simp only [e34] at h
   simp only [e34, J3, Jj, Ji] at f31
   cases h
   refine Zr (lf := lf59) rfl rfl rfl ?_
   simp only [lf59, lc59]
   simp (maxSteps := 4000000) [f31, e34]
   all_goals first | rfl | exact ⟨rfl, rfl⟩

/-! order.far -/
attribute [simp] c75_0 c75_1
def Ki (p0 : Ja) (p1 : Ja) : Int := (iadd .i64 (imax (isub .i64 p0.X p1.X) (isub .i64 p1.X p0.X)) (imax (isub .i64 p0.Y p1.Y) (isub .i64 p1.Y p0.Y)))
def t_order_far (p0 : Ja) (p1 : Ja) : Option Int := some (Ki p0 p1)
theorem Yr (p0 : Ja) (p1 : Ja) : FC env 75 [.agg [.int .i64 p0.X, .int .i64 p0.Y], .agg [.int .i64 p1.X, .int .i64 p1.Y]] none = some (.int .i64 (Ki p0 p1), fun _ => none) := by
 unfold Ki
 refine J9 (lf := lf75) rfl rfl rfl ?_
 simp only [lf75, lc75]
 simp (maxSteps := 4000000) []
/-! order.ends -/
attribute [simp] c65_0 c65_1
def Xh (p0 : Jc) : Option (A2 Ja) := (match fget p0.Cells 0 with
 | none => none
 | some v3 => (match fget p0.Cells (isub .i64 (flen p0.Cells) 1) with
 | none => none
 | some v6 => some (⟨v3, v6⟩ : (A2 Ja))))
theorem Yn {p0 : Jc} {r : (A2 Ja)} (h : Xh p0 = some r) : FC env 65 [.agg [.int .i64 p0.Role, .bool p0.Closed, encF Jh p0.Cells]] none = some (.agg [.int .i64 r.a0.X, .int .i64 r.a0.Y, .int .i64 r.a1.X, .int .i64 r.a1.Y], fun _ => none) := by
 unfold Xh at h
 cases h2 : fget p0.Cells 0 with
 | none => (rw [h2] at h; cases h)
 | some v3 =>
  simp only [h2] at h
  have f1 := K5 (e := Jh) h2
  cases h5 : fget p0.Cells (isub .i64 (flen p0.Cells) 1) with
  | none => (rw [h5] at h; cases h)
  | some v6 =>
   simp only [h5] at h
   have f4 := K5 (e := Jh) h5
   cases h
   refine J9 (lf := lf65) rfl rfl rfl ?_
   simp only [lf65, lc65]
   simp (maxSteps := 4000000) [f1, f4]

/-! order.best -/
attribute [simp] c63_0 c63_1 c63_2 c63_3 c63_4 c63_5 c63_6 c63_7 c63_8 c63_9 Jzv Jwk Juk Jxy c63_15
theorem c63_L0_u (Γ : Env) (ps : List Nat) (σ : St) : EC Γ ps 0 Ji3 σ = EC Γ ps 0 (.seq (.reg false c63_8) (.seq (.cond (.t 28) .skip (.seq (.trim [8, 9]) (.exit 0))) (.seq (.blk 1 (.seq (.reg false c63_9) (.seq (.reg false Jzv) (.seq (.reg false Jwk) (.cond (.t 37) (.reg false Juk) .skip))))) (.reg false Jxy)))) σ := rfl
attribute [simp ↓] c63_L0_u
def Y9 (k0 : Ja) (k1 : (FS Ja)) (k2 : Int) (s : (Int × Int × Int)) : Option (LR (Int × Int × Int) (Int × Int)) := match s with
 | (s0, s1, s2) => (if (ilt s2 k2) = true then (match fget k1 s2 with
 | none => none
 | some v9 => (if (ilt (Ki k0 v9) s1) = true then some (.nx (s2, (Ki k0 v9), (iadd .i64 s2 1)))
 else some (.nx (s0, s1, (iadd .i64 s2 1)))))
 else some (.dn (s0, s1)))
def Xj (k0 : Ja) (k1 : (FS Ja)) (k2 : Int) (s : (Int × Int × Int)) : St := match s with
 | (s0, s1, s2) => ⟨fr [(2, .ptr 2 0 0), (8, .int .i64 s0), (9, .int .i64 s1), (25, encF Jh k1), (26, .int .i64 k2), (27, .int .i64 s2)], hl [(2, .box 0 [.int .i64 k0.X, .int .i64 k0.Y])]⟩
def jp (k0 : Ja) (k1 : (FS Ja)) (k2 : Int) (x : (Int × Int)) : LE × St := (.exit 0, ⟨fr [(8, .int .i64 x.1), (9, .int .i64 x.2)], hl []⟩)
theorem Jdd {k0 : Ja} {k1 : (FS Ja)} {k2 : Int} {s : (Int × Int × Int)} {r : (Int × Int)} (h : Ku (Y9 k0 k1 k2) bigN s = some r) : LK env [] 0 [2, 8, 9, 25, 26, 27] Ji3 (some (Xj k0 k1 k2 s)) = some (jp k0 k1 k2 r) := Q3 (st := Xj k0 k1 k2) (out := jp k0 k1 k2) (by
 clear h s r
 rintro ⟨s0, s1, s2⟩ x h
 simp only [Y9] at h
 by_cases c6 : (ilt s2 k2) = true
 · rw [if_pos c6] at h
   cases h8 : fget k1 s2 with
   | none => (rw [h8] at h; cases h)
   | some v9 =>
    simp only [h8] at h
    have f7 := K5 (e := Jh) h8
    have f10 := Yr k0 v9
    by_cases c11 : (ilt (Ki k0 v9) s1) = true
    · rw [if_pos c11] at h
      cases h
      show LK env [] 0 [2, 8, 9, 25, 26, 27] Ji3 (some (Xj _ _ _ _)) = LK env [] 0 [2, 8, 9, 25, 26, 27] Ji3 (some (Xj _ _ _ _))
      simp only [Xj]
      rw [J4]
      simp (maxSteps := 4000000) [c6, c11, f7, f10]
    · rw [if_neg c11] at h
      rw [Bool.not_eq_true] at c11
      cases h
      show LK env [] 0 [2, 8, 9, 25, 26, 27] Ji3 (some (Xj _ _ _ _)) = LK env [] 0 [2, 8, 9, 25, 26, 27] Ji3 (some (Xj _ _ _ _))
      simp only [Xj]
      rw [J4]
      simp (maxSteps := 4000000) [c6, c11, f7, f10]
 · rw [if_neg c6] at h
   rw [Bool.not_eq_true] at c6
   cases h
   show LK env [] 0 [2, 8, 9, 25, 26, 27] Ji3 (some (Xj _ _ _ _)) = some (jp _ _ _ _)
   simp only [Xj, jp]
   rw [J4]
   simp (maxSteps := 4000000) [c6]) bigN s r h
def Jaj (p0 : Ja) (p1 : Jc) : Option (Int × Int) := (if p1.Closed = true then (match fget p1.Cells 0 with
 | none => none
 | some v4 => (match Ku (Y9 p0 p1.Cells (flen p1.Cells)) bigN (0, (Ki p0 v4), 0) with
 | none => none
 | some v13 => some (v13.1, v13.2)))
 else (match Xh p1 with
 | none => none
 | some v17 => (match fget (flit ([v17.a0, v17.a1] : List Ja)) 0 with
 | none => none
 | some v21 => (match Ku (Y9 p0 (flit ([v17.a0, v17.a1] : List Ja)) (flen (flit ([v17.a0, v17.a1] : List Ja)))) bigN (0, (Ki p0 v21), 0) with
 | none => none
 | some v24 => some (v24.1, v24.2)))))
theorem Jfm {p0 : Ja} {p1 : Jc} {r : (Int × Int)} (h : Jaj p0 p1 = some r) : FC env 63 [.agg [.int .i64 p0.X, .int .i64 p0.Y], .agg [.int .i64 p1.Role, .bool p1.Closed, encF Jh p1.Cells]] none = some (.tup [.int .i64 r.1, .int .i64 r.2], fun _ => none) := by
 unfold Jaj at h
 by_cases c1 : p1.Closed = true
 · rw [if_pos c1] at h
   cases h3 : fget p1.Cells 0 with
   | none => (rw [h3] at h; cases h)
   | some v4 =>
    simp only [h3] at h
    have f2 := K5 (e := Jh) h3
    have f5 := Yr p0 v4
    cases h12 : Ku (Y9 p0 p1.Cells (flen p1.Cells)) bigN (0, (Ki p0 v4), 0) with
    | none => (rw [h12] at h; cases h)
    | some v13 =>
     simp only [h12] at h
     have f14 := Jdd h12
     simp only [Xj, jp, J8] at f14
     try simp only [Jj, Ji, Jm, Jw, Jt, Ju, Jv, Js] at f14
     cases h
     refine J9 (lf := lf63) rfl rfl rfl ?_
     simp only [lf63, lc63]
     try simp only [c1] at f2 f5 f14
     try simp only [c1] at f14
     simp (maxSteps := 4000000) [c1, f2, f5, f14, jk, tupS, Z5, Zc, Z9, Zf, Z2]
 · rw [if_neg c1] at h
   rw [Bool.not_eq_true] at c1
   cases h17 : Xh p1 with
   | none => (rw [h17] at h; cases h)
   | some v18 =>
    simp only [h17] at h
    have f16 := Yn h17
    have f19 : ∀ (H : Heap) (g v : Nat), H g = some (.arr v 2 107 [.int .i64 v18.a0.X, .int .i64 v18.a0.Y, .int .i64 v18.a1.X, .int .i64 v18.a1.Y] false) → snap H depth (.arr g v 0 2) = some (encF Jh (flit ([v18.a0, v18.a1] : List Ja)), [g]) := fun H g v hg => Yd (e := Jh) (x := (flit ([v18.a0, v18.a1] : List Ja))) hg
    cases h21 : fget (flit ([v18.a0, v18.a1] : List Ja)) 0 with
    | none => (rw [h21] at h; cases h)
    | some v22 =>
     simp only [h21] at h
     have f20 := K5 (e := Jh) h21
     have f23 := Yr p0 v22
     cases h24 : Ku (Y9 p0 (flit ([v18.a0, v18.a1] : List Ja)) (flen (flit ([v18.a0, v18.a1] : List Ja)))) bigN (0, (Ki p0 v22), 0) with
     | none => (rw [h24] at h; cases h)
     | some v25 =>
      simp only [h24] at h
      have f26 := Jdd h24
      simp only [Xj, jp, J8] at f26
      try simp only [Jj, Ji, Jm, Jw, Jt, Ju, Jv, Js] at f26
      cases h
      refine J9 (lf := lf63) rfl rfl rfl ?_
      simp only [lf63, lc63]
      try simp only [c1] at f16 f19 f20 f23 f26
      try simp only [c1] at f26
      simp (maxSteps := 4000000) [c1, f16, f19, f20, f23, f26, jk, tupS, Z5, Zc, Z9, Zf, Z2]

/-! track.rotated_api_Cell -/
attribute [simp] c84_0 c84_1
def Xq (p0 : (FS Ja)) (p1 : Int) : Option (FS Ja) := (match fsl p0 p1 (flen p0) with
 | none => none
 | some v3 => (match fsl p0 0 p1 with
 | none => none
 | some v6 => (if mkOK 16 0 (flen p0) = true then (if fits 16 ((flen (frep (⟨0, 0⟩ : Ja) 0)) + (flen v3)) = true then (if fits 16 ((flen (fapp (frep (⟨0, 0⟩ : Ja) 0) v3)) + (flen v6)) = true then some (fapp (fapp (frep (⟨0, 0⟩ : Ja) 0) v3) v6) else none) else none) else none)))
theorem Jax {p0 : (FS Ja)} {p1 : Int} {r : (FS Ja)} (h : Xq p0 p1 = some r) : FC env 84 [encF Jh p0, .int .i64 p1] none = some (encF Jh r, fun _ => none) := by
 unfold Xq at h
 cases h2 : fsl p0 p1 (flen p0) with
 | none => (rw [h2] at h; cases h)
 | some v3 =>
  simp only [h2] at h
  have f1 := Jfp (e := Jh) h2
  cases h5 : fsl p0 0 p1 with
  | none => (rw [h5] at h; cases h)
  | some v6 =>
   simp only [h5] at h
   have f4 := Jw8 (e := Jh) h5
   by_cases h8 : mkOK 16 0 (flen p0) = true
   · rw [if_pos h8] at h
     have f7 := fun H g0 hg => @mk_row _ _ Jh _ (⟨0, 0⟩ : Ja) 16 _ _ h8 H g0 hg 27
     simp only [Jh] at f7
     by_cases h10 : fits 16 ((flen (frep (⟨0, 0⟩ : Ja) 0)) + (flen v3)) = true
     · rw [if_pos h10] at h
       have f9 := fun g0 H => @Jb4 _ _ Jh _ (frep (⟨0, 0⟩ : Ja) 0) v3 16 h10 (by decide) g0 H 7 0 27
       by_cases h12 : fits 16 ((flen (fapp (frep (⟨0, 0⟩ : Ja) 0) v3)) + (flen v6)) = true
       · rw [if_pos h12] at h
         have f11 := fun g0 H => @Jb4 _ _ Jh _ (fapp (frep (⟨0, 0⟩ : Ja) 0) v3) v6 16 h12 (by decide) g0 H 7 (bump 0 (flen v3)) 27
         cases h
         refine J9 (lf := lf84) rfl rfl rfl ?_
         simp only [lf84, lc84]
         simp (maxSteps := 4000000) [f1, f4, f7, f9, f11, Yd (e := Jh) (el := 27) (fz := false)]
       · rw [if_neg h12] at h; cases h
     · rw [if_neg h10] at h; cases h
   · rw [if_neg h8] at h; cases h

/-! track.Turned -/
attribute [simp] c78_0 c78_1 c78_2 c78_3 c78_4 c78_5 c78_6 c78_7
def Jaq (p0 : Jc) (p1 : Int) : Option Jc := (match Y4 p0 with
 | none => none
 | some v3 => (if (bnot v3) = true then some (⟨0, false, (FS.nil : (FS Ja))⟩ : Jc)
 else (if p0.Closed = true then (if ieq (flen p0.Cells) 0 = true then none else (if ieq (flen p0.Cells) 0 = true then none else (match Xq p0.Cells (irem (iadd .i64 (irem p1 (flen p0.Cells)) (flen p0.Cells)) (flen p0.Cells)) with
 | none => none
 | some v10 => some (⟨p0.Role, p0.Closed, v10⟩ : Jc))))
 else (match Xq p0.Cells 0 with
 | none => none
 | some v13 => some (⟨p0.Role, p0.Closed, v13⟩ : Jc)))))
theorem Jia {p0 : Jc} {p1 : Int} {r : Jc} (h : Jaq p0 p1 = some r) : FC env 78 [.agg [.int .i64 p0.Role, .bool p0.Closed, encF Jh p0.Cells], .int .i64 p1] none = some (.agg [.int .i64 r.Role, .bool r.Closed, encF Jh r.Cells], fun _ => none) := by
 unfold Jaq at h
 cases h2 : Y4 p0 with
 | none => (rw [h2] at h; cases h)
 | some v3 =>
  simp only [h2] at h
  have f1 := Jap h2
  by_cases c4 : (bnot v3) = true
  · rw [if_pos c4] at h
    cases h
    refine J9 (lf := lf78) rfl rfl rfl ?_
    simp only [lf78, lc78]
    rcases tof v3 with a5 | a5
    · simp [a5] at c4
    · simp (maxSteps := 4000000) [a5, f1]
  · rw [if_neg c4] at h
    rw [Bool.not_eq_true] at c4
    by_cases c6 : p0.Closed = true
    · rw [if_pos c6] at h
      by_cases h7 : ieq (flen p0.Cells) 0 = true
      · rw [if_pos h7] at h; cases h
      · rw [if_neg h7] at h
        rw [Bool.not_eq_true] at h7
        by_cases h8 : ieq (flen p0.Cells) 0 = true
        · rw [if_pos h8] at h; cases h
        · rw [if_neg h8] at h
          rw [Bool.not_eq_true] at h8
          cases h10 : Xq p0.Cells (irem (iadd .i64 (irem p1 (flen p0.Cells)) (flen p0.Cells)) (flen p0.Cells)) with
          | none => (rw [h10] at h; cases h)
          | some v11 =>
           simp only [h10] at h
           have f9 := Jax h10
           cases h
           refine J9 (lf := lf78) rfl rfl rfl ?_
           simp only [lf78, lc78]
           rcases tof v3 with a12 | a12
           · try simp only [c6] at f1 f9
             simp (maxSteps := 4000000) [a12, c6, f1, h7, h8, f9]
           · simp [a12] at c4
    · rw [if_neg c6] at h
      rw [Bool.not_eq_true] at c6
      cases h14 : Xq p0.Cells 0 with
      | none => (rw [h14] at h; cases h)
      | some v15 =>
       simp only [h14] at h
       have f13 := Jax h14
       cases h
       refine J9 (lf := lf78) rfl rfl rfl ?_
       simp only [lf78, lc78]
       rcases tof v3 with a16 | a16
       · try simp only [c6] at f1 f13
         simp (maxSteps := 4000000) [a16, c6, f1, f13]
       · simp [a16] at c4

/-! track.reversed_api_Cell -/
attribute [simp] c77_0 c77_1 c77_2 c77_3 c77_4 c77_5 c77_7
theorem c77_L0_u (Γ : Env) (ps : List Nat) (σ : St) : EC Γ ps 0 Jlq σ = EC Γ ps 0 (.seq (.seq (.reg false c77_3) (.cond (.t 12) .skip (.seq (.trim [3]) (.exit 0)))) (.seq (.blk 1 (.reg false c77_4)) (.reg false c77_5))) σ := rfl
attribute [simp ↓] c77_L0_u
def Xf (k0 : (FS Ja)) (s : ((FS Ja) × Int)) : Option (LR ((FS Ja) × Int) (FS Ja)) := match s with
 | (s0, s1) => (if (ige s1 0) = true then (match fget k0 s1 with
 | none => none
 | some v6 => (if fits 16 ((flen s0) + 1) = true then some (.nx ((Zy s0 v6), (isub .i64 s1 1))) else none))
 else some (.dn s0))
def Qe (k0 : (FS Ja)) (s : ((FS Ja) × Int)) : St := match s with
 | (s0, s1) => ⟨fr [(0, encF Jh k0), (3, .arr 3 0 0 s0.l.length), (4, .int .i64 s1)], hl [(3, .arr 0 2 27 (Jn Jh s0.l) false)]⟩
def X4 (k0 : (FS Ja)) (x : (FS Ja)) : LE × St := (.exit 0, ⟨fr [(3, .arr 3 0 0 x.l.length)], hl [(3, .arr 0 2 27 (Jn Jh x.l) false)]⟩)
theorem Jbt {k0 : (FS Ja)} {s : ((FS Ja) × Int)} {r : (FS Ja)} (h : Ku (Xf k0) bigN s = some r) : LK env [] 0 [0, 3, 4] Jlq (some (Qe k0 s)) = some (X4 k0 r) := Q3 (st := Qe k0) (out := X4 k0) (by
 clear h s r
 rintro ⟨s0, s1⟩ x h
 simp only [Xf] at h
 by_cases c3 : (ige s1 0) = true
 · rw [if_pos c3] at h
   cases h5 : fget k0 s1 with
   | none => (rw [h5] at h; cases h)
   | some v6 =>
    simp only [h5] at h
    have f4 := K5 (e := Jh) h5
    by_cases h8 : fits 16 ((flen s0) + 1) = true
    · rw [if_pos h8] at h
      have f7 := fun g0 H y => @j9 _ _ Jh _ s0 v6 16 h8 (by decide) g0 H 3 0 27 y
      simp only [Jh] at f7
      cases h
      show LK env [] 0 [0, 3, 4] Jlq (some (Qe _ _)) = LK env [] 0 [0, 3, 4] Jlq (some (Qe _ _))
      simp only [Qe]
      rw [J4]
      simp (maxSteps := 4000000) [c3, f4, f7]
    · rw [if_neg h8] at h; cases h
 · rw [if_neg c3] at h
   rw [Bool.not_eq_true] at c3
   cases h
   show LK env [] 0 [0, 3, 4] Jlq (some (Qe _ _)) = some (X4 _ _)
   simp only [Qe, X4]
   rw [J4]
   simp (maxSteps := 4000000) [c3]) bigN s r h
def Yt (p0 : (FS Ja)) : Option (FS Ja) := (if mkOK 16 0 (flen p0) = true then (match Ku (Xf p0) bigN ((frep (⟨0, 0⟩ : Ja) 0), (isub .i64 (flen p0) 1)) with
 | none => none
 | some v10 => some (flst v10)) else none)
theorem Jcm {p0 : (FS Ja)} {r : (FS Ja)} (h : Yt p0 = some r) : FC env 77 [encF Jh p0] none = some (encF Jh r, fun _ => none) := by
 unfold Yt at h
 by_cases h2 : mkOK 16 0 (flen p0) = true
 · rw [if_pos h2] at h
   have f1 := fun H g0 hg => @mk_row _ _ Jh _ (⟨0, 0⟩ : Ja) 16 _ _ h2 H g0 hg 27
   simp only [Jh] at f1
   cases h9 : Ku (Xf p0) bigN ((frep (⟨0, 0⟩ : Ja) 0), (isub .i64 (flen p0) 1)) with
   | none => (rw [h9] at h; cases h)
   | some v10 =>
    simp only [h9] at h
    have f11 := Jbt h9
    simp only [Qe, X4, J8] at f11
    try simp only [Jj, Ji, Jm, Jw, Jt, Ju, Jv, Js] at f11
    cases h
    refine J9 (lf := lf77) rfl rfl rfl ?_
    simp only [lf77, lc77]
    simp (maxSteps := 4000000) [f1, f11, Yd (e := Jh) (el := 27) (fz := false)]
 · rw [if_neg h2] at h; cases h

/-! track.Reverse -/
attribute [simp] c62_0 c62_1 c62_2 c62_3
def jv (p0 : Jc) : Option Jc := (match Y4 p0 with
 | none => none
 | some v3 => (if (bnot v3) = true then some (⟨0, false, (FS.nil : (FS Ja))⟩ : Jc)
 else (match Yt p0.Cells with
 | none => none
 | some v7 => some (⟨p0.Role, p0.Closed, v7⟩ : Jc))))
theorem Jdk {p0 : Jc} {r : Jc} (h : jv p0 = some r) : FC env 62 [.agg [.int .i64 p0.Role, .bool p0.Closed, encF Jh p0.Cells]] none = some (.agg [.int .i64 r.Role, .bool r.Closed, encF Jh r.Cells], fun _ => none) := by
 unfold jv at h
 cases h2 : Y4 p0 with
 | none => (rw [h2] at h; cases h)
 | some v3 =>
  simp only [h2] at h
  have f1 := Jap h2
  by_cases c4 : (bnot v3) = true
  · rw [if_pos c4] at h
    cases h
    refine J9 (lf := lf62) rfl rfl rfl ?_
    simp only [lf62, lc62]
    rcases tof v3 with a5 | a5
    · simp [a5] at c4
    · simp (maxSteps := 4000000) [a5, f1]
  · rw [if_neg c4] at h
    rw [Bool.not_eq_true] at c4
    cases h7 : Yt p0.Cells with
    | none => (rw [h7] at h; cases h)
    | some v8 =>
     simp only [h7] at h
     have f6 := Jcm h7
     cases h
     refine J9 (lf := lf62) rfl rfl rfl ?_
     simp only [lf62, lc62]
     rcases tof v3 with a9 | a9
     · simp (maxSteps := 4000000) [a9, f1, f6]
     · simp [a9] at c4

/-! order.variant -/
attribute [simp] c64_0 c64_1 c64_2 c64_3 c64_4 c64_5
def jc (p0 : Jc) (p1 : Int) : Option Jc := (if p0.Closed = true then (match Jaq p0 p1 with
 | none => none
 | some v4 => some v4)
 else (if (ieq p1 1) = true then (match jv p0 with
 | none => none
 | some v8 => some v8)
 else some p0))
theorem Jat {p0 : Jc} {p1 : Int} {r : Jc} (h : jc p0 p1 = some r) : FC env 64 [.agg [.int .i64 p0.Role, .bool p0.Closed, encF Jh p0.Cells], .int .i64 p1] none = some (.agg [.int .i64 r.Role, .bool r.Closed, encF Jh r.Cells], fun _ => none) := by
 unfold jc at h
 by_cases c1 : p0.Closed = true
 · rw [if_pos c1] at h
   cases h3 : Jaq p0 p1 with
   | none => (rw [h3] at h; cases h)
   | some v4 =>
    simp only [h3] at h
    have f2 := Jia h3
    cases h
    refine J9 (lf := lf64) rfl rfl rfl ?_
    simp only [lf64, lc64]
    try simp only [c1] at f2
    simp (maxSteps := 4000000) [c1, f2]
 · rw [if_neg c1] at h
   rw [Bool.not_eq_true] at c1
   by_cases c5 : (ieq p1 1) = true
   · rw [if_pos c5] at h
     cases h7 : jv p0 with
     | none => (rw [h7] at h; cases h)
     | some v8 =>
      simp only [h7] at h
      have f6 := Jdk h7
      cases h
      refine J9 (lf := lf64) rfl rfl rfl ?_
      simp only [lf64, lc64]
      try simp only [c1] at f6
      simp (maxSteps := 4000000) [c1, c5, f6]
   · rw [if_neg c5] at h
     rw [Bool.not_eq_true] at c5
     cases h
     refine J9 (lf := lf64) rfl rfl rfl ?_
     simp only [lf64, lc64]
     simp (maxSteps := 4000000) [c1, c5]

/-! order.Greedy -/
attribute [simp] c43_0 c43_1 c43_2 c43_3 c43_4 c43_5 c43_6 c43_7 c43_8 c43_9 Jt8 Jy6 Jvd Jux Jxa Jxp Jvv J0r c43_20
theorem c43_L0_u (Γ : Env) (ps : List Nat) (σ : St) : EC Γ ps 0 Jcf σ = EC Γ ps 0 (.seq (.reg false c43_8) (.seq (.cond (.t 26) .skip (.seq (.trim [2, 5, 6, 7, 8]) (.exit 2))) (.seq (.blk 3 (.seq (.reg false c43_9) (.seq (.reg false Jt8) (.seq (.reg false Jy6) (.cond (.t 42) (.reg false Jvd) .skip))))) (.reg false Jux)))) σ := rfl
theorem c43_L1_u (Γ : Env) (ps : List Nat) (σ : St) : EC Γ ps 0 Jav σ = EC Γ ps 0 (.seq (.seq (.reg false c43_5) (.cond (.t 22) .skip (.seq (.trim [6]) (.exit 0)))) (.blk 1 (.seq (.reg false c43_6) (.seq (.seq (.reg false c43_7) (.blk 2 (.loop [2, 5, 6, 7, 8, 9, 23, 24, 25] Jcf))) (.seq (.reg false Jxa) (.seq (.reg true Jxp) (.seq (.reg false Jvv) (.reg false J0r)))))))) σ := rfl
attribute [simp ↓] c43_L0_u c43_L1_u
def Ys (k0 : Ja) (k1 : Int) (s : ((FS Jc) × (FS Jc) × Int × Int × Int × Int)) : Option (LR ((FS Jc) × (FS Jc) × Int × Int × Int × Int) ((FS Jc) × (FS Jc) × Int × Int)) := match s with
 | (s0, s1, s2, s3, s4, s5) => (if (ilt s5 k1) = true then (match fget s0 s5 with
 | none => none
 | some v10 => (match Jaj k0 v10 with
 | none => none
 | some v14 => (if (bor (ilt s4 0) (ilt v14.2 s4)) = true then some (.nx (s0, s1, s5, v14.1, v14.2, (iadd .i64 s5 1)))
 else some (.nx (s0, s1, s2, s3, s4, (iadd .i64 s5 1))))))
 else some (.dn (s0, s1, s2, s3)))
def Kb (k0 : Ja) (k1 : Int) (s : ((FS Jc) × (FS Jc) × Int × Int × Int × Int)) : St := match s with
 | (s0, s1, s2, s3, s4, s5) => (Jab s0 (Jab s1 (⟨fr [(2, .ptr 2 0 0), (5, .nils), (6, .nils), (7, .int .i64 s2), (8, .int .i64 s3), (9, .int .i64 s4), (23, .nils), (24, .int .i64 k1), (25, .int .i64 s5)], hl [(2, .box 0 [.int .i64 k0.X, .int .i64 k0.Y])]⟩)
  (fun l1 => ⟨fr [(2, .ptr 2 0 0), (5, .nils), (6, .arr 6 0 0 l1.l.length), (7, .int .i64 s2), (8, .int .i64 s3), (9, .int .i64 s4), (23, .nils), (24, .int .i64 k1), (25, .int .i64 s5)], hl [(2, .box 0 [.int .i64 k0.X, .int .i64 k0.Y]), (6, .arr 0 3 50 (Jn Jg l1.l) false)]⟩))
  (fun l0 => (Jab s1 (⟨fr [(2, .ptr 2 0 0), (5, .arr 5 0 0 l0.l.length), (6, .nils), (7, .int .i64 s2), (8, .int .i64 s3), (9, .int .i64 s4), (23, .arr 5 0 0 l0.l.length), (24, .int .i64 k1), (25, .int .i64 s5)], hl [(2, .box 0 [.int .i64 k0.X, .int .i64 k0.Y]), (5, .arr 0 3 50 (Jn Jg l0.l) false)]⟩)
  (fun l1 => ⟨fr [(2, .ptr 2 0 0), (5, .arr 5 0 0 l0.l.length), (6, .arr 6 0 0 l1.l.length), (7, .int .i64 s2), (8, .int .i64 s3), (9, .int .i64 s4), (23, .arr 5 0 0 l0.l.length), (24, .int .i64 k1), (25, .int .i64 s5)], hl [(2, .box 0 [.int .i64 k0.X, .int .i64 k0.Y]), (5, .arr 0 3 50 (Jn Jg l0.l) false), (6, .arr 0 3 50 (Jn Jg l1.l) false)]⟩))))
def Qn (k0 : Ja) (k1 : Int) (x : ((FS Jc) × (FS Jc) × Int × Int)) : LE × St := (Jab x.1 (Jab x.2.1 (.exit 2, ⟨fr [(2, .ptr 2 0 0), (5, .nils), (6, .nils), (7, .int .i64 x.2.2.1), (8, .int .i64 x.2.2.2)], hl [(2, .box 0 [.int .i64 k0.X, .int .i64 k0.Y])]⟩)
  (fun l1 => (.exit 2, ⟨fr [(2, .ptr 2 0 0), (5, .nils), (6, .arr 6 0 0 l1.l.length), (7, .int .i64 x.2.2.1), (8, .int .i64 x.2.2.2)], hl [(2, .box 0 [.int .i64 k0.X, .int .i64 k0.Y]), (6, .arr 0 3 50 (Jn Jg l1.l) false)]⟩)))
  (fun l0 => (Jab x.2.1 (.exit 2, ⟨fr [(2, .ptr 2 0 0), (5, .arr 5 0 0 l0.l.length), (6, .nils), (7, .int .i64 x.2.2.1), (8, .int .i64 x.2.2.2)], hl [(2, .box 0 [.int .i64 k0.X, .int .i64 k0.Y]), (5, .arr 0 3 50 (Jn Jg l0.l) false)]⟩)
  (fun l1 => (.exit 2, ⟨fr [(2, .ptr 2 0 0), (5, .arr 5 0 0 l0.l.length), (6, .arr 6 0 0 l1.l.length), (7, .int .i64 x.2.2.1), (8, .int .i64 x.2.2.2)], hl [(2, .box 0 [.int .i64 k0.X, .int .i64 k0.Y]), (5, .arr 0 3 50 (Jn Jg l0.l) false), (6, .arr 0 3 50 (Jn Jg l1.l) false)]⟩)))))
theorem Jcd {k0 : Ja} {k1 : Int} {s : ((FS Jc) × (FS Jc) × Int × Int × Int × Int)} {r : ((FS Jc) × (FS Jc) × Int × Int)} (h : Ku (Ys k0 k1) bigN s = some r) : LK env [] 0 [2, 5, 6, 7, 8, 9, 23, 24, 25] Jcf (some (Kb k0 k1 s)) = some (Qn k0 k1 r) := Q3 (st := Kb k0 k1) (out := Qn k0 k1) (by
 clear h s r
 rintro ⟨s0, s1, s2, s3, s4, s5⟩ x h
 simp only [Ys] at h
 cases e20 : s0 with
 | nil =>
  try simp only [e20, J3] at h
  cases e22 : s1 with
  | nil =>
   try simp only [e22, J3] at h
   by_cases c23 : (ilt s5 k1) = true
   · rw [if_pos c23] at h
     exact absurd h (by simp [Jbj])
   · rw [if_neg c23] at h
     rw [Bool.not_eq_true] at c23
     cases h
     show LK env [] 0 [2, 5, 6, 7, 8, 9, 23, 24, 25] Jcf (some (Kb _ _ _)) = some (Qn _ _ _)
     simp only [Kb, Qn, e20, e22]
     rw [J4]
     simp (maxSteps := 4000000) [c23, e20, e22]
  | lst l21 =>
   try simp only [e22] at h
   by_cases c24 : (ilt s5 k1) = true
   · rw [if_pos c24] at h
     exact absurd h (by simp [Jbj])
   · rw [if_neg c24] at h
     rw [Bool.not_eq_true] at c24
     cases h
     show LK env [] 0 [2, 5, 6, 7, 8, 9, 23, 24, 25] Jcf (some (Kb _ _ _)) = some (Qn _ _ _)
     simp only [Kb, Qn, e20, e22]
     rw [J4]
     simp (maxSteps := 4000000) [c24, e20, e22]
 | lst l19 =>
  try simp only [e20] at h
  cases e26 : s1 with
  | nil =>
   try simp only [e26, J3] at h
   by_cases c27 : (ilt s5 k1) = true
   · rw [if_pos c27] at h
     cases h30 : fget (FS.lst l19) s5 with
     | none => (rw [h30] at h; cases h)
     | some v31 =>
      simp only [h30] at h
      have f28 := Y3 (w := 3) h30
      have f29 := h30
      have f32 := (Z1 (e := Jg) f29 true 3 (by decide) (by decide))
      simp only [Jg] at f32
      cases h34 : Jaj k0 v31 with
      | none => (rw [h34] at h; cases h)
      | some v35 =>
       simp only [h34] at h
       have f33 := Jfm h34
       by_cases c36 : (bor (ilt s4 0) (ilt v35.2 s4)) = true
       · rw [if_pos c36] at h
         cases h
         show LK env [] 0 [2, 5, 6, 7, 8, 9, 23, 24, 25] Jcf (some (Kb _ _ _)) = LK env [] 0 [2, 5, 6, 7, 8, 9, 23, 24, 25] Jcf (some (Kb _ _ _))
         simp only [Kb, e20, e26]
         rw [J4]
         rcases tof (ilt s4 0) with a37 | a37
         · simp (maxSteps := 4000000) [c27, a37, e20, e26, f28, f32, f33]
         · rcases tof (ilt v35.2 s4) with a38 | a38
           · simp (maxSteps := 4000000) [c27, a37, a38, e20, e26, f28, f32, f33]
           · simp [c27, a37, a38] at c36
       · rw [if_neg c36] at h
         rw [Bool.not_eq_true] at c36
         cases h
         show LK env [] 0 [2, 5, 6, 7, 8, 9, 23, 24, 25] Jcf (some (Kb _ _ _)) = LK env [] 0 [2, 5, 6, 7, 8, 9, 23, 24, 25] Jcf (some (Kb _ _ _))
         simp only [Kb, e20, e26]
         rw [J4]
         rcases tof (ilt s4 0) with a39 | a39
         · simp [c27, a39] at c36
         · rcases tof (ilt v35.2 s4) with a40 | a40
           · simp [c27, a39, a40] at c36
           · simp (maxSteps := 4000000) [c27, a39, a40, e20, e26, f28, f32, f33]
   · rw [if_neg c27] at h
     rw [Bool.not_eq_true] at c27
     cases h
     show LK env [] 0 [2, 5, 6, 7, 8, 9, 23, 24, 25] Jcf (some (Kb _ _ _)) = some (Qn _ _ _)
     simp only [Kb, Qn, e20, e26]
     rw [J4]
     simp (maxSteps := 4000000) [c27, e20, e26]
  | lst l25 =>
   try simp only [e26] at h
   by_cases c41 : (ilt s5 k1) = true
   · rw [if_pos c41] at h
     cases h44 : fget (FS.lst l19) s5 with
     | none => (rw [h44] at h; cases h)
     | some v45 =>
      simp only [h44] at h
      have f42 := Y3 (w := 3) h44
      have f43 := h44
      have f46 := (Z1 (e := Jg) f43 true 3 (by decide) (by decide))
      simp only [Jg] at f46
      cases h48 : Jaj k0 v45 with
      | none => (rw [h48] at h; cases h)
      | some v49 =>
       simp only [h48] at h
       have f47 := Jfm h48
       by_cases c50 : (bor (ilt s4 0) (ilt v49.2 s4)) = true
       · rw [if_pos c50] at h
         cases h
         show LK env [] 0 [2, 5, 6, 7, 8, 9, 23, 24, 25] Jcf (some (Kb _ _ _)) = LK env [] 0 [2, 5, 6, 7, 8, 9, 23, 24, 25] Jcf (some (Kb _ _ _))
         simp only [Kb, e20, e26]
         rw [J4]
         rcases tof (ilt s4 0) with a51 | a51
         · simp (maxSteps := 4000000) [c41, a51, e20, e26, f42, f46, f47]
         · rcases tof (ilt v49.2 s4) with a52 | a52
           · simp (maxSteps := 4000000) [c41, a51, a52, e20, e26, f42, f46, f47]
           · simp [c41, a51, a52] at c50
       · rw [if_neg c50] at h
         rw [Bool.not_eq_true] at c50
         cases h
         show LK env [] 0 [2, 5, 6, 7, 8, 9, 23, 24, 25] Jcf (some (Kb _ _ _)) = LK env [] 0 [2, 5, 6, 7, 8, 9, 23, 24, 25] Jcf (some (Kb _ _ _))
         simp only [Kb, e20, e26]
         rw [J4]
         rcases tof (ilt s4 0) with a53 | a53
         · simp [c41, a53] at c50
         · rcases tof (ilt v49.2 s4) with a54 | a54
           · simp [c41, a53, a54] at c50
           · simp (maxSteps := 4000000) [c41, a53, a54, e20, e26, f42, f46, f47]
   · rw [if_neg c41] at h
     rw [Bool.not_eq_true] at c41
     cases h
     show LK env [] 0 [2, 5, 6, 7, 8, 9, 23, 24, 25] Jcf (some (Kb _ _ _)) = some (Qn _ _ _)
     simp only [Kb, Qn, e20, e26]
     rw [J4]
     simp (maxSteps := 4000000) [c41, e20, e26]) bigN s r h
def Zg  (s : (Ja × (FS Jc) × (FS Jc))) : Option (LR (Ja × (FS Jc) × (FS Jc)) (FS Jc)) := match s with
 | (s0, s1, s2) => (if (igt (flen s1) 0) = true then (match Ku (Ys s0 (flen s1)) bigN (s1, s2, 0, 0, (-1), 0) with
 | none => none
 | some v17 => (match fget v17.1 v17.2.2.1 with
 | none => none
 | some v21 => (match jc v21 v17.2.2.2 with
 | none => none
 | some v25 => (match fsl v17.1 0 v17.2.2.1 with
 | none => none
 | some v27 => (match fsl v17.1 (iadd .i64 v17.2.2.1 1) (flen v17.1) with
 | none => none
 | some v29 => (if fits 40 (flen v27 + flen v29) = true then (if fits 40 ((flen v17.2.1) + 1) = true then (match Xh v25 with
 | none => none
 | some v36 => some (.nx (v36.a1, (fapp v27 v29), (Zy v17.2.1 v25)))) else none) else none))))))
 else some (.dn s2))
def J2  (s : (Ja × (FS Jc) × (FS Jc))) : St := match s with
 | (s0, s1, s2) => (Jab s1 (Jab s2 (⟨fr [(2, .ptr 2 0 0), (5, .nils), (6, .nils)], hl [(2, .box 0 [.int .i64 s0.X, .int .i64 s0.Y])]⟩)
  (fun l1 => ⟨fr [(2, .ptr 2 0 0), (5, .nils), (6, .arr 6 0 0 l1.l.length)], hl [(2, .box 0 [.int .i64 s0.X, .int .i64 s0.Y]), (6, .arr 0 3 50 (Jn Jg l1.l) false)]⟩))
  (fun l0 => (Jab s2 (⟨fr [(2, .ptr 2 0 0), (5, .arr 5 0 0 l0.l.length), (6, .nils)], hl [(2, .box 0 [.int .i64 s0.X, .int .i64 s0.Y]), (5, .arr 0 3 50 (Jn Jg l0.l) false)]⟩)
  (fun l1 => ⟨fr [(2, .ptr 2 0 0), (5, .arr 5 0 0 l0.l.length), (6, .arr 6 0 0 l1.l.length)], hl [(2, .box 0 [.int .i64 s0.X, .int .i64 s0.Y]), (5, .arr 0 3 50 (Jn Jg l0.l) false), (6, .arr 0 3 50 (Jn Jg l1.l) false)]⟩))))
def Qm  (x : (FS Jc)) : LE × St := (Jab x (.exit 0, ⟨fr [(6, .nils)], hl []⟩)
  (fun l0 => (.exit 0, ⟨fr [(6, .arr 6 0 0 l0.l.length)], hl [(6, .arr 0 3 50 (Jn Jg l0.l) false)]⟩)))
theorem Jcc  {s : (Ja × (FS Jc) × (FS Jc))} {r : (FS Jc)} (h : Ku (Zg ) bigN s = some r) : LK env [] 0 [2, 5, 6] Jav (some (J2  s)) = some (Qm  r) := Q3 (st := J2 ) (out := Qm ) (by
 clear h s r
 rintro ⟨s0, s1, s2⟩ x h
 simp only [Zg] at h
 cases e11 : s1 with
 | nil =>
  try simp only [e11, J3] at h
  cases e13 : s2 with
  | nil =>
   try simp only [e13, J3] at h
   have c14 : (igt 0 0) = false := rfl
   rw [if_neg (by rw [c14]; decide)] at h
   cases h
   show LK env [] 0 [2, 5, 6] Jav (some (J2  _)) = some (Qm  _)
   simp only [J2, Qm, e11, e13]
   rw [J4]
   simp (maxSteps := 4000000) [e11, e13, c14]
  | lst l12 =>
   try simp only [e13] at h
   have c15 : (igt 0 0) = false := rfl
   rw [if_neg (by rw [c15]; decide)] at h
   cases h
   show LK env [] 0 [2, 5, 6] Jav (some (J2  _)) = some (Qm  _)
   simp only [J2, Qm, e11, e13]
   rw [J4]
   simp (maxSteps := 4000000) [e11, e13, c15]
 | lst l10 =>
  try simp only [e11] at h
  cases e17 : s2 with
  | nil =>
   try simp only [e17, J3] at h
   by_cases c18 : (igt (flen (FS.lst l10)) 0) = true
   · rw [if_pos c18] at h
     cases h55 : Ku (Ys s0 (flen (FS.lst l10))) bigN ((FS.lst l10), (FS.nil : (FS Jc)), 0, 0, (-1), 0) with
     | none => (rw [h55] at h; cases h)
     | some v56 =>
      simp only [h55] at h
      have f57 := Jcd h55
      simp only [Kb, Qn, J8] at f57
      cases e60 : v56.1 with
      | nil =>
       try simp only [e60, J3] at h
       cases e62 : v56.2.1 with
       | nil =>
        try simp only [e62, J3] at h
        simp only [e60, e62, J3, Jj, Ji] at f57
        exact absurd h (by simp [Jbj])
       | lst l61 =>
        try simp only [e62] at h
        simp only [e60, e62, J3, Jj, Ji] at f57
        exact absurd h (by simp [Jbj])
      | lst l59 =>
       try simp only [e60] at h
       cases e64 : v56.2.1 with
       | nil =>
        try simp only [e64, J3] at h
        simp only [e60, e64, J3, Jj, Ji] at f57
        cases h67 : fget (FS.lst l59) v56.2.2.1 with
        | none => (rw [h67] at h; cases h)
        | some v68 =>
         simp only [h67] at h
         have f65 := Y3 (w := 3) h67
         have f66 := h67
         have f69 := (Z1 (e := Jg) f66 true 3 (by decide) (by decide))
         simp only [Jg] at f69
         cases h71 : jc v68 v56.2.2.2 with
         | none => (rw [h71] at h; cases h)
         | some v72 =>
          simp only [h71] at h
          have f70 := Jat h71
          cases h77 : fsl (FS.lst l59) 0 v56.2.2.1 with
          | none => (rw [h77] at h; cases h)
          | some v78 =>
           simp only [h77] at h
           have f75 := Jbd (e := Jg) h77
           try simp only [Int.reduceToNat, Nat.reduceMul, Nat.one_mul, Nat.mul_one] at f75
           have f76 := Jcn h77 3
           try simp only [Int.reduceToNat, Nat.reduceMul, Nat.one_mul, Nat.mul_one] at f76
           have f73 := Jew (w := 3) h77
           try simp only [Int.reduceToNat, Nat.reduceMul, Nat.one_mul, Nat.mul_one] at f73
           have f74 := h77
           cases h83 : fsl (FS.lst l59) (iadd .i64 v56.2.2.1 1) (flen (FS.lst l59)) with
           | none => (rw [h83] at h; cases h)
           | some v84 =>
            simp only [h83] at h
            have f81 := Jbd (e := Jg) h83
            try simp only [Int.reduceToNat, Nat.reduceMul, Nat.one_mul, Nat.mul_one] at f81
            have f82 := Jcn h83 3
            try simp only [Int.reduceToNat, Nat.reduceMul, Nat.one_mul, Nat.mul_one] at f82
            have f79 := Jcu (w := 3) h83
            try simp only [Int.reduceToNat, Nat.reduceMul, Nat.one_mul, Nat.mul_one] at f79
            have f80 := h83
            by_cases h86 : fits 40 (flen v78 + flen v84) = true
            · rw [if_pos h86] at h
              rcases tof (ieq (flen v84) 0) with z87 | z87
              · simp only [Jh2 z87] at h
                have f85 := fun g0 b0 (H : Heap) hg => @Jhz _ _ Jg _ _ _ _ _ _ _ _ f74 f80 z87 g0 b0 H 5 0 50 hg
                try simp only [Int.reduceToNat, Nat.reduceMul, Nat.one_mul, Nat.mul_one] at f85
                by_cases h89 : fits 40 (0 + 1) = true
                · rw [if_pos h89] at h
                  have f88 := fun H g0 hg y => @Jds _ _ Jg _ v72 40 h89 (by decide) H g0 50 y hg
                  simp only [Jg] at f88
                  cases h91 : Xh v72 with
                  | none => (rw [h91] at h; cases h)
                  | some v92 =>
                   simp only [h91] at h
                   have f90 := Yn h91
                   cases h
                   show LK env [] 0 [2, 5, 6] Jav (some (J2  _)) = LK env [] 0 [2, 5, 6] Jav (some (J2  _))
                   simp only [J2, e11, e17]
                   rw [J4]
                   try simp only [c18] at f57
                   simp (maxSteps := 4000000) [c18, e11, e17, f57, e60, e64, f65, f69, f70, f75, f76, f73, f81, f82, f79, f85, Jn0, f88, f90]
                · rw [if_neg h89] at h; cases h
              · have f85 := fun g0 (H : Heap) hg => @Jjk _ _ Jg _ _ _ _ _ _ _ _ f74 f80 40 h86 z87 (by decide) g0 H 5 0 50 hg
                try simp only [Int.reduceToNat, Nat.reduceMul, Nat.one_mul, Nat.mul_one] at f85
                by_cases h94 : fits 40 (0 + 1) = true
                · rw [if_pos h94] at h
                  have f93 := fun H g0 hg y => @Jds _ _ Jg _ v72 40 h94 (by decide) H g0 50 y hg
                  simp only [Jg] at f93
                  cases h96 : Xh v72 with
                  | none => (rw [h96] at h; cases h)
                  | some v97 =>
                   simp only [h96] at h
                   have f95 := Yn h96
                   cases h
                   show LK env [] 0 [2, 5, 6] Jav (some (J2  _)) = LK env [] 0 [2, 5, 6] Jav (some (J2  _))
                   simp only [J2, e11, e17]
                   rw [J4]
                   try simp only [c18] at f57
                   simp (maxSteps := 4000000) [c18, e11, e17, f57, e60, e64, f65, f69, f70, f75, f76, f73, f81, f82, f79, f85, f93, f95]
                · rw [if_neg h94] at h; cases h
            · rw [if_neg h86] at h; cases h
       | lst l63 =>
        try simp only [e64] at h
        simp only [e60, e64, J3, Jj, Ji] at f57
        cases h100 : fget (FS.lst l59) v56.2.2.1 with
        | none => (rw [h100] at h; cases h)
        | some v101 =>
         simp only [h100] at h
         have f98 := Y3 (w := 3) h100
         have f99 := h100
         have f102 := (Z1 (e := Jg) f99 true 3 (by decide) (by decide))
         simp only [Jg] at f102
         cases h104 : jc v101 v56.2.2.2 with
         | none => (rw [h104] at h; cases h)
         | some v105 =>
          simp only [h104] at h
          have f103 := Jat h104
          cases h110 : fsl (FS.lst l59) 0 v56.2.2.1 with
          | none => (rw [h110] at h; cases h)
          | some v111 =>
           simp only [h110] at h
           have f108 := Jbd (e := Jg) h110
           try simp only [Int.reduceToNat, Nat.reduceMul, Nat.one_mul, Nat.mul_one] at f108
           have f109 := Jcn h110 3
           try simp only [Int.reduceToNat, Nat.reduceMul, Nat.one_mul, Nat.mul_one] at f109
           have f106 := Jew (w := 3) h110
           try simp only [Int.reduceToNat, Nat.reduceMul, Nat.one_mul, Nat.mul_one] at f106
           have f107 := h110
           cases h116 : fsl (FS.lst l59) (iadd .i64 v56.2.2.1 1) (flen (FS.lst l59)) with
           | none => (rw [h116] at h; cases h)
           | some v117 =>
            simp only [h116] at h
            have f114 := Jbd (e := Jg) h116
            try simp only [Int.reduceToNat, Nat.reduceMul, Nat.one_mul, Nat.mul_one] at f114
            have f115 := Jcn h116 3
            try simp only [Int.reduceToNat, Nat.reduceMul, Nat.one_mul, Nat.mul_one] at f115
            have f112 := Jcu (w := 3) h116
            try simp only [Int.reduceToNat, Nat.reduceMul, Nat.one_mul, Nat.mul_one] at f112
            have f113 := h116
            by_cases h119 : fits 40 (flen v111 + flen v117) = true
            · rw [if_pos h119] at h
              rcases tof (ieq (flen v117) 0) with z120 | z120
              · simp only [Jh2 z120] at h
                have f118 := fun g0 b0 (H : Heap) hg => @Jhz _ _ Jg _ _ _ _ _ _ _ _ f107 f113 z120 g0 b0 H 5 0 50 hg
                try simp only [Int.reduceToNat, Nat.reduceMul, Nat.one_mul, Nat.mul_one] at f118
                by_cases h122 : fits 40 ((flen (FS.lst l63)) + 1) = true
                · rw [if_pos h122] at h
                  have f121 := fun g0 H y => @j9 _ _ Jg _ (FS.lst l63) v105 40 h122 (by decide) g0 H 6 0 50 y
                  simp only [Jg] at f121
                  cases h124 : Xh v105 with
                  | none => (rw [h124] at h; cases h)
                  | some v125 =>
                   simp only [h124] at h
                   have f123 := Yn h124
                   cases h
                   show LK env [] 0 [2, 5, 6] Jav (some (J2  _)) = LK env [] 0 [2, 5, 6] Jav (some (J2  _))
                   simp only [J2, e11, e17]
                   rw [J4]
                   try simp only [c18] at f57
                   simp (maxSteps := 4000000) [c18, e11, e17, f57, e60, e64, f98, f102, f103, f108, f109, f106, f114, f115, f112, f118, Jn0, f121, f123]
                · rw [if_neg h122] at h; cases h
              · have f118 := fun g0 (H : Heap) hg => @Jjk _ _ Jg _ _ _ _ _ _ _ _ f107 f113 40 h119 z120 (by decide) g0 H 5 0 50 hg
                try simp only [Int.reduceToNat, Nat.reduceMul, Nat.one_mul, Nat.mul_one] at f118
                by_cases h127 : fits 40 ((flen (FS.lst l63)) + 1) = true
                · rw [if_pos h127] at h
                  have f126 := fun g0 H y => @j9 _ _ Jg _ (FS.lst l63) v105 40 h127 (by decide) g0 H 6 0 50 y
                  simp only [Jg] at f126
                  cases h129 : Xh v105 with
                  | none => (rw [h129] at h; cases h)
                  | some v130 =>
                   simp only [h129] at h
                   have f128 := Yn h129
                   cases h
                   show LK env [] 0 [2, 5, 6] Jav (some (J2  _)) = LK env [] 0 [2, 5, 6] Jav (some (J2  _))
                   simp only [J2, e11, e17]
                   rw [J4]
                   try simp only [c18] at f57
                   simp (maxSteps := 4000000) [c18, e11, e17, f57, e60, e64, f98, f102, f103, f108, f109, f106, f114, f115, f112, f118, f126, f128]
                · rw [if_neg h127] at h; cases h
            · rw [if_neg h119] at h; cases h
   · rw [if_neg c18] at h
     rw [Bool.not_eq_true] at c18
     cases h
     show LK env [] 0 [2, 5, 6] Jav (some (J2  _)) = some (Qm  _)
     simp only [J2, Qm, e11, e17]
     rw [J4]
     simp (maxSteps := 4000000) [c18, e11, e17]
  | lst l16 =>
   try simp only [e17] at h
   by_cases c131 : (igt (flen (FS.lst l10)) 0) = true
   · rw [if_pos c131] at h
     cases h132 : Ku (Ys s0 (flen (FS.lst l10))) bigN ((FS.lst l10), (FS.lst l16), 0, 0, (-1), 0) with
     | none => (rw [h132] at h; cases h)
     | some v133 =>
      simp only [h132] at h
      have f134 := Jcd h132
      simp only [Kb, Qn, J8] at f134
      cases e137 : v133.1 with
      | nil =>
       try simp only [e137, J3] at h
       cases e139 : v133.2.1 with
       | nil =>
        try simp only [e139, J3] at h
        simp only [e137, e139, J3, Jj, Ji] at f134
        exact absurd h (by simp [Jbj])
       | lst l138 =>
        try simp only [e139] at h
        simp only [e137, e139, J3, Jj, Ji] at f134
        exact absurd h (by simp [Jbj])
      | lst l136 =>
       try simp only [e137] at h
       cases e141 : v133.2.1 with
       | nil =>
        try simp only [e141, J3] at h
        simp only [e137, e141, J3, Jj, Ji] at f134
        cases h144 : fget (FS.lst l136) v133.2.2.1 with
        | none => (rw [h144] at h; cases h)
        | some v145 =>
         simp only [h144] at h
         have f142 := Y3 (w := 3) h144
         have f143 := h144
         have f146 := (Z1 (e := Jg) f143 true 3 (by decide) (by decide))
         simp only [Jg] at f146
         cases h148 : jc v145 v133.2.2.2 with
         | none => (rw [h148] at h; cases h)
         | some v149 =>
          simp only [h148] at h
          have f147 := Jat h148
          cases h154 : fsl (FS.lst l136) 0 v133.2.2.1 with
          | none => (rw [h154] at h; cases h)
          | some v155 =>
           simp only [h154] at h
           have f152 := Jbd (e := Jg) h154
           try simp only [Int.reduceToNat, Nat.reduceMul, Nat.one_mul, Nat.mul_one] at f152
           have f153 := Jcn h154 3
           try simp only [Int.reduceToNat, Nat.reduceMul, Nat.one_mul, Nat.mul_one] at f153
           have f150 := Jew (w := 3) h154
           try simp only [Int.reduceToNat, Nat.reduceMul, Nat.one_mul, Nat.mul_one] at f150
           have f151 := h154
           cases h160 : fsl (FS.lst l136) (iadd .i64 v133.2.2.1 1) (flen (FS.lst l136)) with
           | none => (rw [h160] at h; cases h)
           | some v161 =>
            simp only [h160] at h
            have f158 := Jbd (e := Jg) h160
            try simp only [Int.reduceToNat, Nat.reduceMul, Nat.one_mul, Nat.mul_one] at f158
            have f159 := Jcn h160 3
            try simp only [Int.reduceToNat, Nat.reduceMul, Nat.one_mul, Nat.mul_one] at f159
            have f156 := Jcu (w := 3) h160
            try simp only [Int.reduceToNat, Nat.reduceMul, Nat.one_mul, Nat.mul_one] at f156
            have f157 := h160
            by_cases h163 : fits 40 (flen v155 + flen v161) = true
            · rw [if_pos h163] at h
              rcases tof (ieq (flen v161) 0) with z164 | z164
              · simp only [Jh2 z164] at h
                have f162 := fun g0 b0 (H : Heap) hg => @Jhz _ _ Jg _ _ _ _ _ _ _ _ f151 f157 z164 g0 b0 H 5 0 50 hg
                try simp only [Int.reduceToNat, Nat.reduceMul, Nat.one_mul, Nat.mul_one] at f162
                by_cases h166 : fits 40 (0 + 1) = true
                · rw [if_pos h166] at h
                  have f165 := fun H g0 hg y => @Jds _ _ Jg _ v149 40 h166 (by decide) H g0 50 y hg
                  simp only [Jg] at f165
                  cases h168 : Xh v149 with
                  | none => (rw [h168] at h; cases h)
                  | some v169 =>
                   simp only [h168] at h
                   have f167 := Yn h168
                   cases h
                   show LK env [] 0 [2, 5, 6] Jav (some (J2  _)) = LK env [] 0 [2, 5, 6] Jav (some (J2  _))
                   simp only [J2, e11, e17]
                   rw [J4]
                   try simp only [c131] at f134
                   simp (maxSteps := 4000000) [c131, e11, e17, f134, e137, e141, f142, f146, f147, f152, f153, f150, f158, f159, f156, f162, Jn0, f165, f167]
                · rw [if_neg h166] at h; cases h
              · have f162 := fun g0 (H : Heap) hg => @Jjk _ _ Jg _ _ _ _ _ _ _ _ f151 f157 40 h163 z164 (by decide) g0 H 5 0 50 hg
                try simp only [Int.reduceToNat, Nat.reduceMul, Nat.one_mul, Nat.mul_one] at f162
                by_cases h171 : fits 40 (0 + 1) = true
                · rw [if_pos h171] at h
                  have f170 := fun H g0 hg y => @Jds _ _ Jg _ v149 40 h171 (by decide) H g0 50 y hg
                  simp only [Jg] at f170
                  cases h173 : Xh v149 with
                  | none => (rw [h173] at h; cases h)
                  | some v174 =>
                   simp only [h173] at h
                   have f172 := Yn h173
                   cases h
                   show LK env [] 0 [2, 5, 6] Jav (some (J2  _)) = LK env [] 0 [2, 5, 6] Jav (some (J2  _))
                   simp only [J2, e11, e17]
                   rw [J4]
                   try simp only [c131] at f134
                   simp (maxSteps := 4000000) [c131, e11, e17, f134, e137, e141, f142, f146, f147, f152, f153, f150, f158, f159, f156, f162, f170, f172]
                · rw [if_neg h171] at h; cases h
            · rw [if_neg h163] at h; cases h
       | lst l140 =>
        try simp only [e141] at h
        simp only [e137, e141, J3, Jj, Ji] at f134
        cases h177 : fget (FS.lst l136) v133.2.2.1 with
        | none => (rw [h177] at h; cases h)
        | some v178 =>
         simp only [h177] at h
         have f175 := Y3 (w := 3) h177
         have f176 := h177
         have f179 := (Z1 (e := Jg) f176 true 3 (by decide) (by decide))
         simp only [Jg] at f179
         cases h181 : jc v178 v133.2.2.2 with
         | none => (rw [h181] at h; cases h)
         | some v182 =>
          simp only [h181] at h
          have f180 := Jat h181
          cases h187 : fsl (FS.lst l136) 0 v133.2.2.1 with
          | none => (rw [h187] at h; cases h)
          | some v188 =>
           simp only [h187] at h
           have f185 := Jbd (e := Jg) h187
           try simp only [Int.reduceToNat, Nat.reduceMul, Nat.one_mul, Nat.mul_one] at f185
           have f186 := Jcn h187 3
           try simp only [Int.reduceToNat, Nat.reduceMul, Nat.one_mul, Nat.mul_one] at f186
           have f183 := Jew (w := 3) h187
           try simp only [Int.reduceToNat, Nat.reduceMul, Nat.one_mul, Nat.mul_one] at f183
           have f184 := h187
           cases h193 : fsl (FS.lst l136) (iadd .i64 v133.2.2.1 1) (flen (FS.lst l136)) with
           | none => (rw [h193] at h; cases h)
           | some v194 =>
            simp only [h193] at h
            have f191 := Jbd (e := Jg) h193
            try simp only [Int.reduceToNat, Nat.reduceMul, Nat.one_mul, Nat.mul_one] at f191
            have f192 := Jcn h193 3
            try simp only [Int.reduceToNat, Nat.reduceMul, Nat.one_mul, Nat.mul_one] at f192
            have f189 := Jcu (w := 3) h193
            try simp only [Int.reduceToNat, Nat.reduceMul, Nat.one_mul, Nat.mul_one] at f189
            have f190 := h193
            by_cases h196 : fits 40 (flen v188 + flen v194) = true
            · rw [if_pos h196] at h
              rcases tof (ieq (flen v194) 0) with z197 | z197
              · simp only [Jh2 z197] at h
                have f195 := fun g0 b0 (H : Heap) hg => @Jhz _ _ Jg _ _ _ _ _ _ _ _ f184 f190 z197 g0 b0 H 5 0 50 hg
                try simp only [Int.reduceToNat, Nat.reduceMul, Nat.one_mul, Nat.mul_one] at f195
                by_cases h199 : fits 40 ((flen (FS.lst l140)) + 1) = true
                · rw [if_pos h199] at h
                  have f198 := fun g0 H y => @j9 _ _ Jg _ (FS.lst l140) v182 40 h199 (by decide) g0 H 6 0 50 y
                  simp only [Jg] at f198
                  cases h201 : Xh v182 with
                  | none => (rw [h201] at h; cases h)
                  | some v202 =>
                   simp only [h201] at h
                   have f200 := Yn h201
                   cases h
                   show LK env [] 0 [2, 5, 6] Jav (some (J2  _)) = LK env [] 0 [2, 5, 6] Jav (some (J2  _))
                   simp only [J2, e11, e17]
                   rw [J4]
                   try simp only [c131] at f134
                   simp (maxSteps := 4000000) [c131, e11, e17, f134, e137, e141, f175, f179, f180, f185, f186, f183, f191, f192, f189, f195, Jn0, f198, f200]
                · rw [if_neg h199] at h; cases h
              · have f195 := fun g0 (H : Heap) hg => @Jjk _ _ Jg _ _ _ _ _ _ _ _ f184 f190 40 h196 z197 (by decide) g0 H 5 0 50 hg
                try simp only [Int.reduceToNat, Nat.reduceMul, Nat.one_mul, Nat.mul_one] at f195
                by_cases h204 : fits 40 ((flen (FS.lst l140)) + 1) = true
                · rw [if_pos h204] at h
                  have f203 := fun g0 H y => @j9 _ _ Jg _ (FS.lst l140) v182 40 h204 (by decide) g0 H 6 0 50 y
                  simp only [Jg] at f203
                  cases h206 : Xh v182 with
                  | none => (rw [h206] at h; cases h)
                  | some v207 =>
                   simp only [h206] at h
                   have f205 := Yn h206
                   cases h
                   show LK env [] 0 [2, 5, 6] Jav (some (J2  _)) = LK env [] 0 [2, 5, 6] Jav (some (J2  _))
                   simp only [J2, e11, e17]
                   rw [J4]
                   try simp only [c131] at f134
                   simp (maxSteps := 4000000) [c131, e11, e17, f134, e137, e141, f175, f179, f180, f185, f186, f183, f191, f192, f189, f195, f203, f205]
                · rw [if_neg h204] at h; cases h
            · rw [if_neg h196] at h; cases h
   · rw [if_neg c131] at h
     rw [Bool.not_eq_true] at c131
     cases h
     show LK env [] 0 [2, 5, 6] Jav (some (J2  _)) = some (Qm  _)
     simp only [J2, Qm, e11, e17]
     rw [J4]
     simp (maxSteps := 4000000) [c131, e11, e17]) bigN s r h
def z2 (p0 : Ja) (p1 : (FS Jc)) : Option (FS Jc) := (if (bnot (Qv p0)) = true then some (FS.nil : (FS Jc))
 else (match zx p1 with
 | none => none
 | some v4 => (match Ku (Zg) bigN (p0, v4, (FS.nil : (FS Jc))) with
 | none => none
 | some v38 => some v38)))
theorem Jed {p0 : Ja} {p1 : (FS Jc)} {r : (FS Jc)} (h : z2 p0 p1 = some r) : FC env 43 [.agg [.int .i64 p0.X, .int .i64 p0.Y], encF Jg p1] none = some (encF Jg r, fun _ => none) := by
 unfold z2 at h
 have f1 := Jdy p0
 by_cases c2 : (bnot (Qv p0)) = true
 · rw [if_pos c2] at h
   cases h
   refine J9 (lf := lf43) rfl rfl rfl ?_
   simp only [lf43, lc43]
   rcases tof (Qv p0) with a3 | a3
   · simp [a3] at c2
   · simp (maxSteps := 4000000) [a3, f1]
 · rw [if_neg c2] at h
   rw [Bool.not_eq_true] at c2
   cases h4 : zx p1 with
   | none => (rw [h4] at h; cases h)
   | some v5 =>
    simp only [h4] at h
    have f6 := Je3 h4
    cases e8 : v5 with
    | nil =>
     try simp only [e8, J3] at h
     simp only [e8, J3, Jj, Ji] at f6
     have f9 : ∀ H : Heap, jt (FC env) 59 H [encF Jg p1] = some (.nils, H) := by
       intro H 
       simp (maxSteps := 4000000) [f6, e8]
     cases h208 : Ku (Zg) bigN (p0, (FS.nil : (FS Jc)), (FS.nil : (FS Jc))) with
     | none => (rw [h208] at h; cases h)
     | some v209 =>
      simp only [h208] at h
      have f210 := Jcc h208
      simp only [J2, Qm, J8] at f210
      cases e213 : v209 with
      | nil =>
       try simp only [e213, J3] at h
       simp only [e213, J3, Jj, Ji] at f210
       cases h
       refine J9 (lf := lf43) rfl rfl rfl ?_
       simp only [lf43, lc43]
       rcases tof (Qv p0) with a214 | a214
       · try simp only [a214] at f6 f210
         simp (maxSteps := 4000000) [-Qq, a214, f1, e8, f9, f6, f210, e213]
       · simp [a214] at c2
      | lst l212 =>
       try simp only [e213] at h
       simp only [e213, J3, Jj, Ji] at f210
       cases h
       refine J9 (lf := lf43) rfl rfl rfl ?_
       simp only [lf43, lc43]
       rcases tof (Qv p0) with a215 | a215
       · try simp only [a215] at f6 f210
         simp (maxSteps := 4000000) [-Qq, a215, f1, e8, f9, f6, f210, e213, Yd (e := Jg) (el := 50) (fz := false)]
       · simp [a215] at c2
    | lst l7 =>
     try simp only [e8] at h
     simp only [e8, J3, Jj, Ji] at f6
     have f216 : ∀ H : Heap, H 701059000 = none → jt (FC env) 59 H [encF Jg p1] = some (.arr 701059000 0 0 (FS.lst l7).l.length, upd H 701059000 (some (.arr 0 3 50 (Jn Jg (FS.lst l7).l) false))) := by
       intro H q0
       simp (maxSteps := 4000000) [q0, f6, e8]
     cases h217 : Ku (Zg) bigN (p0, (FS.lst l7), (FS.nil : (FS Jc))) with
     | none => (rw [h217] at h; cases h)
     | some v218 =>
      simp only [h217] at h
      have f219 := Jcc h217
      simp only [J2, Qm, J8] at f219
      cases e222 : v218 with
      | nil =>
       try simp only [e222, J3] at h
       simp only [e222, J3, Jj, Ji] at f219
       cases h
       refine J9 (lf := lf43) rfl rfl rfl ?_
       simp only [lf43, lc43]
       rcases tof (Qv p0) with a223 | a223
       · try simp only [a223] at f6 f219
         simp (maxSteps := 4000000) [-Qq, a223, f1, e8, f216, f6, f219, e222]
       · simp [a223] at c2
      | lst l221 =>
       try simp only [e222] at h
       simp only [e222, J3, Jj, Ji] at f219
       cases h
       refine J9 (lf := lf43) rfl rfl rfl ?_
       simp only [lf43, lc43]
       rcases tof (Qv p0) with a224 | a224
       · try simp only [a224] at f6 f219
         simp (maxSteps := 4000000) [-Qq, a224, f1, e8, f216, f6, f219, e222, Yd (e := Jg) (el := 50) (fz := false)]
       · simp [a224] at c2

/-! order.turnedEnds -/
attribute [simp] c74_0 c74_1 c74_2 c74_3 c74_4
def Z4 (p0 : Jc) : Option (A2 Ja) := (match Xh p0 with
 | none => none
 | some v3 => (if (bnot p0.Closed) = true then some (⟨v3.a1, v3.a0⟩ : (A2 Ja))
 else some v3))
theorem Jbz {p0 : Jc} {r : (A2 Ja)} (h : Z4 p0 = some r) : FC env 74 [.agg [.int .i64 p0.Role, .bool p0.Closed, encF Jh p0.Cells]] none = some (.agg [.int .i64 r.a0.X, .int .i64 r.a0.Y, .int .i64 r.a1.X, .int .i64 r.a1.Y], fun _ => none) := by
 unfold Z4 at h
 cases h2 : Xh p0 with
 | none => (rw [h2] at h; cases h)
 | some v3 =>
  simp only [h2] at h
  have f1 := Yn h2
  by_cases c4 : (bnot p0.Closed) = true
  · rw [if_pos c4] at h
    cases h
    refine J9 (lf := lf74) rfl rfl rfl ?_
    simp only [lf74, lc74]
    rcases tof p0.Closed with a5 | a5
    · simp [a5] at c4
    · try simp only [a5] at f1
      simp (maxSteps := 4000000) [a5, f1]
  · rw [if_neg c4] at h
    rw [Bool.not_eq_true] at c4
    cases h
    refine J9 (lf := lf74) rfl rfl rfl ?_
    simp only [lf74, lc74]
    rcases tof p0.Closed with a6 | a6
    · try simp only [a6] at f1
      simp (maxSteps := 4000000) [a6, f1]
    · simp [a6] at c4

/-! order.planned -/
attribute [simp] c60_0 c60_1 c60_2 c60_3 c60_4 c60_5 c60_6 c60_7 c60_8 c60_9 Juz Ju6 Jwq Ju2 c60_15
theorem c60_L0_u (Γ : Env) (ps : List Nat) (σ : St) : EC Γ ps 0 Jfe σ = EC Γ ps 0 (.seq (.reg false c60_3) (.seq (.cond (.t 15) .skip (.seq (.trim [4, 5]) (.exit 0))) (.seq (.blk 1 (.seq (.reg false c60_4) (.seq (.reg true c60_5) (.seq (.reg true c60_6) (.seq (.reg false c60_7) (.seq (.seq (.reg false c60_8) (.cond (.t 34) (.seq (.reg true c60_9) (.reg true Juz)) .skip)) (.seq (.reg false Ju6) (.reg false Jwq)))))))) (.reg false Ju2)))) σ := rfl
attribute [simp ↓] c60_L0_u
def Zn (k0 : (FS Jc)) (k1 : K9) (k2 : Int) (s : (K9 × Int)) : Option (LR (K9 × Int) K9) := match s with
 | (s0, s1) => (if (band (beqB (fnl s0.a) (fnl s0.b)) (band (beqB (fnl s0.a) (fnl s0.ahead)) (beqB (fnl s0.a) (fnl s0.aback)))) = true then (if (ilt s1 k2) = true then (match fget k0 s1 with
 | none => none
 | some v5 => (match Xh v5 with
 | none => none
 | some v9 => (if fits 32 ((flen s0.a) + 1) = true then (match Z4 v5 with
 | none => none
 | some v14 => (if fits 32 ((flen s0.b) + 1) = true then (if (igt s1 0) = true then (match fget s0.ahead (isub .i64 s1 1) with
 | none => none
 | some v20 => (match fget (Zy s0.a v9) (isub .i64 s1 1) with
 | none => none
 | some v25 => (match fget (Zy s0.a v9) s1 with
 | none => none
 | some v30 => (match fget s0.aback (isub .i64 s1 1) with
 | none => none
 | some v35 => (match fget (Zy s0.b v14) s1 with
 | none => none
 | some v40 => (match fget (Zy s0.b v14) (isub .i64 s1 1) with
 | none => none
 | some v45 => (if fits 8 ((flen s0.ahead) + 1) = true then (if fits 8 ((flen s0.aback) + 1) = true then some (.nx ((⟨s0.from_, (Zy s0.a v9), (Zy s0.b v14), (Zy s0.ahead (iadd .i64 v20 (Ki v25.a1 v30.a0))), (Zy s0.aback (iadd .i64 v35 (Ki v40.a1 v45.a0)))⟩ : K9), (iadd .i64 s1 1))) else none) else none)))))))
 else (if fits 8 ((flen s0.ahead) + 1) = true then (if fits 8 ((flen s0.aback) + 1) = true then some (.nx ((⟨s0.from_, (Zy s0.a v9), (Zy s0.b v14), (Zy s0.ahead 0), (Zy s0.aback 0)⟩ : K9), (iadd .i64 s1 1))) else none) else none)) else none)) else none)))
 else some (.dn (⟨s0.from_, s0.a, s0.b, s0.ahead, s0.aback⟩ : K9)))
 else none)
def Ks (k0 : (FS Jc)) (k1 : K9) (k2 : Int) (s : (K9 × Int)) : St := match s with
 | (s0, s1) => (Jab s0.a (⟨fr [(4, .ptr 4 0 0), (5, .ptr 5 0 0), (12, .arr 1 0 0 k0.l.length), (13, .int .i64 k2), (14, .int .i64 s1)], hl [(1, .arr 0 3 50 (Jn Jg k0.l) false), (4, .box 0 [.int .i64 k1.from_.X, .int .i64 k1.from_.Y, .nils, .nils, .nils, .nils]), (5, .box 0 [.int .i64 s0.from_.X, .int .i64 s0.from_.Y, .nils, .nils, .nils, .nils])]⟩)
  (fun l0 => ⟨fr [(4, .ptr 4 0 0), (5, .ptr 5 0 0), (12, .arr 1 0 0 k0.l.length), (13, .int .i64 k2), (14, .int .i64 s1)], hl [(1, .arr 0 3 50 (Jn Jg k0.l) false), (4, .box 0 [.int .i64 k1.from_.X, .int .i64 k1.from_.Y, .nils, .nils, .nils, .nils]), (5, .box 0 [.int .i64 s0.from_.X, .int .i64 s0.from_.Y, .arr 1005002 0 0 l0.l.length, .arr 1005003 0 0 s0.b.l.length, .arr 1005004 0 0 s0.ahead.l.length, .arr 1005005 0 0 s0.aback.l.length]), (1005002, .arr 0 4 107 (Jn J5 l0.l) false), (1005003, .arr 0 4 107 (Jn J5 s0.b.l) false), (1005004, .arr 0 1 3 (Jn jw s0.ahead.l) false), (1005005, .arr 0 1 3 (Jn jw s0.aback.l) false)]⟩))
def Yz (k0 : (FS Jc)) (k1 : K9) (k2 : Int) (x : K9) : LE × St := (Jab x.a (.exit 0, ⟨fr [(4, .ptr 4 0 0), (5, .ptr 5 0 0)], hl [(1, .arr 0 3 50 (Jn Jg k0.l) false), (4, .box 0 [.int .i64 k1.from_.X, .int .i64 k1.from_.Y, .nils, .nils, .nils, .nils]), (5, .box 0 [.int .i64 x.from_.X, .int .i64 x.from_.Y, .nils, .nils, .nils, .nils])]⟩)
  (fun l0 => (.exit 0, ⟨fr [(4, .ptr 4 0 0), (5, .ptr 5 0 0)], hl [(1, .arr 0 3 50 (Jn Jg k0.l) false), (4, .box 0 [.int .i64 k1.from_.X, .int .i64 k1.from_.Y, .nils, .nils, .nils, .nils]), (5, .box 0 [.int .i64 x.from_.X, .int .i64 x.from_.Y, .arr 1005002 0 0 l0.l.length, .arr 1005003 0 0 x.b.l.length, .arr 1005004 0 0 x.ahead.l.length, .arr 1005005 0 0 x.aback.l.length]), (1005002, .arr 0 4 107 (Jn J5 l0.l) false), (1005003, .arr 0 4 107 (Jn J5 x.b.l) false), (1005004, .arr 0 1 3 (Jn jw x.ahead.l) false), (1005005, .arr 0 1 3 (Jn jw x.aback.l) false)]⟩)))
theorem Jfa {k0 : (FS Jc)} {k1 : K9} {k2 : Int} {s : (K9 × Int)} {r : K9} (h : Ku (Zn k0 k1 k2) bigN s = some r) : LK env [1] 0 [4, 5, 12, 13, 14] Jfe (some (Ks k0 k1 k2 s)) = some (Yz k0 k1 k2 r) := Q3 (st := Ks k0 k1 k2) (out := Yz k0 k1 k2) (by
 clear h s r
 rintro ⟨s0, s1⟩ x h
 simp only [Zn] at h
 by_cases hG : (band (beqB (fnl s0.a) (fnl s0.b)) (band (beqB (fnl s0.a) (fnl s0.ahead)) (beqB (fnl s0.a) (fnl s0.aback)))) = true
 · rw [if_pos hG] at h
   cases e2 : s0.a with
   | nil =>
    try simp only [e2, J3] at h
    cases e4 : s0.b with
    | nil =>
     try simp only [e4, J3] at h
     cases e6 : s0.ahead with
     | nil =>
      try simp only [e6, J3] at h
      cases e8 : s0.aback with
      | nil =>
       try simp only [e8, J3] at h
       by_cases c9 : (ilt s1 k2) = true
       · rw [if_pos c9] at h
         cases h12 : fget k0 s1 with
         | none => (rw [h12] at h; cases h)
         | some v13 =>
          simp only [h12] at h
          have f10 := Y3 (w := 3) h12
          have f11 := h12
          have f14 := (Z1 (e := Jg) f11 true 3 (by decide) (by decide))
          simp only [Jg] at f14
          cases h16 : Xh v13 with
          | none => (rw [h16] at h; cases h)
          | some v17 =>
           simp only [h16] at h
           have f15 := Yn h16
           by_cases h19 : fits 32 (0 + 1) = true
           · rw [if_pos h19] at h
             have f18 := fun H g0 hg y => @Jds _ _ J5 _ v17 32 h19 (by decide) H g0 107 y hg
             simp only [J5] at f18
             cases h21 : Z4 v13 with
             | none => (rw [h21] at h; cases h)
             | some v22 =>
              simp only [h21] at h
              have f20 := Jbz h21
              by_cases h24 : fits 32 (0 + 1) = true
              · rw [if_pos h24] at h
                have f23 := fun H g0 hg y => @Jds _ _ J5 _ v22 32 h24 (by decide) H g0 107 y hg
                simp only [J5] at f23
                by_cases c25 : (igt s1 0) = true
                · rw [if_pos c25] at h
                  exact absurd h (by simp [Jbj])
                · rw [if_neg c25] at h
                  rw [Bool.not_eq_true] at c25
                  by_cases h27 : fits 8 (0 + 1) = true
                  · rw [if_pos h27] at h
                    have f26 := fun H g0 hg y => @Jds _ _ jw _ 0 8 h27 (by decide) H g0 3 y hg
                    simp only [jw] at f26
                    by_cases h29 : fits 8 (0 + 1) = true
                    · rw [if_pos h29] at h
                      have f28 := fun H g0 hg y => @Jds _ _ jw _ 0 8 h29 (by decide) H g0 3 y hg
                      simp only [jw] at f28
                      cases h
                      show LK env [1] 0 [4, 5, 12, 13, 14] Jfe (some (Ks _ _ _ _)) = LK env [1] 0 [4, 5, 12, 13, 14] Jfe (some (Ks _ _ _ _))
                      simp only [Ks, e2, e4, e6, e8]
                      rw [J4]
                      simp (maxSteps := 4000000) [c9, c25, e2, e4, e6, e8, f10, f14, f15, f18, f20, f23, f26, f28]
                    · rw [if_neg h29] at h; cases h
                  · rw [if_neg h27] at h; cases h
              · rw [if_neg h24] at h; cases h
           · rw [if_neg h19] at h; cases h
       · rw [if_neg c9] at h
         rw [Bool.not_eq_true] at c9
         cases h
         show LK env [1] 0 [4, 5, 12, 13, 14] Jfe (some (Ks _ _ _ _)) = some (Yz _ _ _ _)
         simp only [Ks, Yz, e2, e4, e6, e8]
         rw [J4]
         simp (maxSteps := 4000000) [c9, e2, e4, e6, e8]
      | lst l7 =>
       exact absurd hG (by simp [e2, e8])
     | lst l5 =>
      exact absurd hG (by simp [e2, e6])
    | lst l3 =>
     exact absurd hG (by simp [e2, e4])
   | lst l1 =>
    try simp only [e2] at h
    cases e31 : s0.b with
    | nil =>
     exact absurd hG (by simp [e2, e31])
    | lst l30 =>
     try simp only [e31] at h
     cases e33 : s0.ahead with
     | nil =>
      exact absurd hG (by simp [e2, e33])
     | lst l32 =>
      try simp only [e33] at h
      cases e35 : s0.aback with
      | nil =>
       exact absurd hG (by simp [e2, e35])
      | lst l34 =>
       try simp only [e35] at h
       by_cases c36 : (ilt s1 k2) = true
       · rw [if_pos c36] at h
         cases h39 : fget k0 s1 with
         | none => (rw [h39] at h; cases h)
         | some v40 =>
          simp only [h39] at h
          have f37 := Y3 (w := 3) h39
          have f38 := h39
          have f41 := (Z1 (e := Jg) f38 true 3 (by decide) (by decide))
          simp only [Jg] at f41
          cases h43 : Xh v40 with
          | none => (rw [h43] at h; cases h)
          | some v44 =>
           simp only [h43] at h
           have f42 := Yn h43
           by_cases h46 : fits 32 ((flen (FS.lst l1)) + 1) = true
           · rw [if_pos h46] at h
             have f45 := fun g0 H y => @j9 _ _ J5 _ (FS.lst l1) v44 32 h46 (by decide) g0 H 1005002 0 107 y
             simp only [J5] at f45
             cases h48 : Z4 v40 with
             | none => (rw [h48] at h; cases h)
             | some v49 =>
              simp only [h48] at h
              have f47 := Jbz h48
              by_cases h51 : fits 32 ((flen (FS.lst l30)) + 1) = true
              · rw [if_pos h51] at h
                have f50 := fun g0 H y => @j9 _ _ J5 _ (FS.lst l30) v49 32 h51 (by decide) g0 H 1005003 0 107 y
                simp only [J5] at f50
                by_cases c52 : (igt s1 0) = true
                · rw [if_pos c52] at h
                  cases h55 : fget (FS.lst l32) (isub .i64 s1 1) with
                  | none => (rw [h55] at h; cases h)
                  | some v56 =>
                   simp only [h55] at h
                   have f53 := Y3 (w := 1) h55
                   have f54 := h55
                   have f57 := (Z1 (e := jw) f54 false 1 (by decide) (by decide))
                   simp only [jw] at f57
                   cases h60 : fget (Zy (FS.lst l1) v44) (isub .i64 s1 1) with
                   | none => (rw [h60] at h; cases h)
                   | some v61 =>
                    simp only [h60] at h
                    have f58 := Y3 (w := 4) h60
                    have f59 := h60
                    have f62 := (Jjm (e := J5) f59 true 2 2 (by decide) (by decide))
                    simp only [J5] at f62
                    cases h65 : fget (Zy (FS.lst l1) v44) s1 with
                    | none => (rw [h65] at h; cases h)
                    | some v66 =>
                     simp only [h65] at h
                     have f63 := Y3 (w := 4) h65
                     have f64 := h65
                     have f67 := (Z1 (e := J5) f64 true 2 (by decide) (by decide))
                     simp only [J5] at f67
                     have f68 := Yr v61.a1 v66.a0
                     cases h71 : fget (FS.lst l34) (isub .i64 s1 1) with
                     | none => (rw [h71] at h; cases h)
                     | some v72 =>
                      simp only [h71] at h
                      have f69 := Y3 (w := 1) h71
                      have f70 := h71
                      have f73 := (Z1 (e := jw) f70 false 1 (by decide) (by decide))
                      simp only [jw] at f73
                      cases h76 : fget (Zy (FS.lst l30) v49) s1 with
                      | none => (rw [h76] at h; cases h)
                      | some v77 =>
                       simp only [h76] at h
                       have f74 := Y3 (w := 4) h76
                       have f75 := h76
                       have f78 := (Jjm (e := J5) f75 true 2 2 (by decide) (by decide))
                       simp only [J5] at f78
                       cases h81 : fget (Zy (FS.lst l30) v49) (isub .i64 s1 1) with
                       | none => (rw [h81] at h; cases h)
                       | some v82 =>
                        simp only [h81] at h
                        have f79 := Y3 (w := 4) h81
                        have f80 := h81
                        have f83 := (Z1 (e := J5) f80 true 2 (by decide) (by decide))
                        simp only [J5] at f83
                        have f84 := Yr v77.a1 v82.a0
                        by_cases h86 : fits 8 ((flen (FS.lst l32)) + 1) = true
                        · rw [if_pos h86] at h
                          have f85 := fun g0 H y => @j9 _ _ jw _ (FS.lst l32) (iadd .i64 v56 (Ki v61.a1 v66.a0)) 8 h86 (by decide) g0 H 1005004 0 3 y
                          simp only [jw] at f85
                          by_cases h88 : fits 8 ((flen (FS.lst l34)) + 1) = true
                          · rw [if_pos h88] at h
                            have f87 := fun g0 H y => @j9 _ _ jw _ (FS.lst l34) (iadd .i64 v72 (Ki v77.a1 v82.a0)) 8 h88 (by decide) g0 H 1005005 0 3 y
                            simp only [jw] at f87
                            cases h
                            show LK env [1] 0 [4, 5, 12, 13, 14] Jfe (some (Ks _ _ _ _)) = LK env [1] 0 [4, 5, 12, 13, 14] Jfe (some (Ks _ _ _ _))
                            simp only [Ks, e2, e31, e33, e35]
                            rw [J4]
                            simp (maxSteps := 4000000) [c36, c52, e2, e31, e33, e35, f37, f41, f42, f45, f47, f50, f53, f57, f58, f62, f63, f67, f68, f69, f73, f74, f78, f79, f83, f84, f85, f87]
                          · rw [if_neg h88] at h; cases h
                        · rw [if_neg h86] at h; cases h
                · rw [if_neg c52] at h
                  rw [Bool.not_eq_true] at c52
                  by_cases h90 : fits 8 ((flen (FS.lst l32)) + 1) = true
                  · rw [if_pos h90] at h
                    have f89 := fun g0 H y => @j9 _ _ jw _ (FS.lst l32) 0 8 h90 (by decide) g0 H 1005004 0 3 y
                    simp only [jw] at f89
                    by_cases h92 : fits 8 ((flen (FS.lst l34)) + 1) = true
                    · rw [if_pos h92] at h
                      have f91 := fun g0 H y => @j9 _ _ jw _ (FS.lst l34) 0 8 h92 (by decide) g0 H 1005005 0 3 y
                      simp only [jw] at f91
                      cases h
                      show LK env [1] 0 [4, 5, 12, 13, 14] Jfe (some (Ks _ _ _ _)) = LK env [1] 0 [4, 5, 12, 13, 14] Jfe (some (Ks _ _ _ _))
                      simp only [Ks, e2, e31, e33, e35]
                      rw [J4]
                      simp (maxSteps := 4000000) [c36, c52, e2, e31, e33, e35, f37, f41, f42, f45, f47, f50, f89, f91]
                    · rw [if_neg h92] at h; cases h
                  · rw [if_neg h90] at h; cases h
              · rw [if_neg h51] at h; cases h
           · rw [if_neg h46] at h; cases h
       · rw [if_neg c36] at h
         rw [Bool.not_eq_true] at c36
         cases h
         show LK env [1] 0 [4, 5, 12, 13, 14] Jfe (some (Ks _ _ _ _)) = some (Yz _ _ _ _)
         simp only [Ks, Yz, e2, e31, e33, e35]
         rw [J4]
         simp (maxSteps := 4000000) [c36, e2, e31, e33, e35]
 · rw [if_neg hG] at h; cases h) bigN s r h
def Z8 (p0 : Ja) (p1 : (FS Jc)) : Option (K9 × (FS Jc)) := (match Ku (Zn p1 (⟨(⟨0, 0⟩ : Ja), (FS.nil : (FS (A2 Ja))), (FS.nil : (FS (A2 Ja))), (FS.nil : (FS Int)), (FS.nil : (FS Int))⟩ : K9) (flen p1)) bigN ((⟨p0, (FS.nil : (FS (A2 Ja))), (FS.nil : (FS (A2 Ja))), (FS.nil : (FS Int)), (FS.nil : (FS Int))⟩ : K9), 0) with
 | none => none
 | some v57 => (if (band (beqB (fnl v57.a) (fnl v57.b)) (band (beqB (fnl v57.a) (fnl v57.ahead)) (beqB (fnl v57.a) (fnl v57.aback)))) = true then some ((⟨v57.from_, v57.a, v57.b, v57.ahead, v57.aback⟩ : K9), p1)
 else none))
theorem Jhw {p0 : Ja} {p1 : (FS Jc)} {r : (K9 × (FS Jc))} (h : Z8 p0 p1 = some r) : FC env 60 [.agg [.int .i64 p0.X, .int .i64 p0.Y], .arr 1 0 0 p1.l.length] (some (hl [(1, .arr 0 3 50 (Jn Jg p1.l) false)], 0)) = some (.agg [.int .i64 r.1.from_.X, .int .i64 r.1.from_.Y, encF J5 r.1.a, encF J5 r.1.b, encF jw r.1.ahead, encF jw r.1.aback], hl [(1, .arr 0 3 50 (Jn Jg r.2.l) false)]) ∧ r.2 = p1 := by
 unfold Z8 at h
 cases h93 : Ku (Zn p1 (⟨(⟨0, 0⟩ : Ja), (FS.nil : (FS (A2 Ja))), (FS.nil : (FS (A2 Ja))), (FS.nil : (FS Int)), (FS.nil : (FS Int))⟩ : K9) (flen p1)) bigN ((⟨p0, (FS.nil : (FS (A2 Ja))), (FS.nil : (FS (A2 Ja))), (FS.nil : (FS Int)), (FS.nil : (FS Int))⟩ : K9), 0) with
 | none => (rw [h93] at h; cases h)
 | some v94 =>
  simp only [h93] at h
  have f95 := Jfa h93
  simp only [Ks, Yz, J8] at f95
  by_cases h96 : (band (beqB (fnl v94.a) (fnl v94.b)) (band (beqB (fnl v94.a) (fnl v94.ahead)) (beqB (fnl v94.a) (fnl v94.aback)))) = true
  · rw [if_pos h96] at h
    cases e98 : v94.a with
    | nil =>
     try simp only [e98, J3] at h
     cases e100 : v94.b with
     | nil =>
      try simp only [e100, J3] at h
      cases e102 : v94.ahead with
      | nil =>
       try simp only [e102, J3] at h
       cases e104 : v94.aback with
       | nil =>
        try simp only [e104, J3] at h
        simp only [e98, e100, e102, e104, J3, Jj, Ji] at f95
        cases h
        refine ⟨?_, rfl⟩
        refine Zr (lf := lf60) rfl rfl rfl ?_
        simp only [lf60, lc60]
        simp (maxSteps := 4000000) [f95, e98, e100, e102, e104]
       | lst l103 =>
        exact absurd h96 (by simp [e98, e104])
      | lst l101 =>
       exact absurd h96 (by simp [e98, e102])
     | lst l99 =>
      exact absurd h96 (by simp [e98, e100])
    | lst l97 =>
     try simp only [e98] at h
     cases e106 : v94.b with
     | nil =>
      exact absurd h96 (by simp [e98, e106])
     | lst l105 =>
      try simp only [e106] at h
      cases e108 : v94.ahead with
      | nil =>
       exact absurd h96 (by simp [e98, e108])
      | lst l107 =>
       try simp only [e108] at h
       cases e110 : v94.aback with
       | nil =>
        exact absurd h96 (by simp [e98, e110])
       | lst l109 =>
        try simp only [e110] at h
        simp only [e98, e106, e108, e110, J3, Jj, Ji] at f95
        cases h
        refine ⟨?_, rfl⟩
        refine Zr (lf := lf60) rfl rfl rfl ?_
        simp only [lf60, lc60]
        simp (maxSteps := 4000000) [f95, e98, e106, e108, e110, Juj, Jxb, Z5, Zc, Z9, Zf, Z2, Je9 (e := J5) (el := 107) (fz := false), Je9 (e := J5) (el := 107) (fz := false), Je9 (e := jw) (el := 3) (fz := false), Je9 (e := jw) (el := 3) (fz := false)]
  · rw [if_neg h96] at h; cases h
theorem Jg4 {p0 : Ja} {r : (K9 × (FS Jc))} (h : Z8 p0 (FS.nil : (FS Jc)) = some r) : FC env 60 [.agg [.int .i64 p0.X, .int .i64 p0.Y], .nils] (some (hl [], 0)) = some (.agg [.int .i64 r.1.from_.X, .int .i64 r.1.from_.Y, encF J5 r.1.a, encF J5 r.1.b, encF jw r.1.ahead, encF jw r.1.aback], hl []) ∧ r.2 = FS.nil := by
  have h2 := (rfl : Z8 p0 (FS.nil : (FS Jc)) = some _)
  rw [h2] at h
  cases h
  exact ⟨Jdl.2 ⟨60, by kernel_rfl⟩, rfl⟩

/-! order.plan).gains -/
attribute [simp] c76_0 c76_1 c76_2 c76_3 c76_4 c76_5 c76_6 c76_7 c76_8 c76_9
def jz (p0 : K9) (p1 : Int) (p2 : Int) : Option Bool := (if (igt p1 0) = true then (match fget p0.a (isub .i64 p1 1) with
 | none => none
 | some v4 => (match fget p0.a p1 with
 | none => none
 | some v7 => (match fget p0.ahead p2 with
 | none => none
 | some v11 => (match fget p0.ahead p1 with
 | none => none
 | some v14 => (match fget p0.b p2 with
 | none => none
 | some v17 => (match fget p0.aback p2 with
 | none => none
 | some v21 => (match fget p0.aback p1 with
 | none => none
 | some v24 => (if (ilt (iadd .i64 p2 1) (flen p0.a)) = true then (match fget p0.a p2 with
 | none => none
 | some v28 => (match fget p0.a (iadd .i64 p2 1) with
 | none => none
 | some v31 => (match fget p0.b p1 with
 | none => none
 | some v35 => some (ilt (iadd .i64 (isub .i64 (iadd .i64 (Ki v4.a1 v17.a0) v21) v24) (Ki v35.a1 v31.a0)) (iadd .i64 (isub .i64 (iadd .i64 (Ki v4.a1 v7.a0) v11) v14) (Ki v28.a1 v31.a0))))))
 else some (ilt (isub .i64 (iadd .i64 (Ki v4.a1 v17.a0) v21) v24) (isub .i64 (iadd .i64 (Ki v4.a1 v7.a0) v11) v14))))))))))
 else (match fget p0.a p1 with
 | none => none
 | some v40 => (match fget p0.ahead p2 with
 | none => none
 | some v44 => (match fget p0.ahead p1 with
 | none => none
 | some v47 => (match fget p0.b p2 with
 | none => none
 | some v50 => (match fget p0.aback p2 with
 | none => none
 | some v54 => (match fget p0.aback p1 with
 | none => none
 | some v57 => (if (ilt (iadd .i64 p2 1) (flen p0.a)) = true then (match fget p0.a p2 with
 | none => none
 | some v61 => (match fget p0.a (iadd .i64 p2 1) with
 | none => none
 | some v64 => (match fget p0.b p1 with
 | none => none
 | some v68 => some (ilt (iadd .i64 (isub .i64 (iadd .i64 (Ki p0.from_ v50.a0) v54) v57) (Ki v68.a1 v64.a0)) (iadd .i64 (isub .i64 (iadd .i64 (Ki p0.from_ v40.a0) v44) v47) (Ki v61.a1 v64.a0))))))
 else some (ilt (isub .i64 (iadd .i64 (Ki p0.from_ v50.a0) v54) v57) (isub .i64 (iadd .i64 (Ki p0.from_ v40.a0) v44) v47))))))))))
theorem Jfi {p0 : K9} {p1 : Int} {p2 : Int} {r : Bool} (h : jz p0 p1 p2 = some r) : FC env 76 [.agg [.int .i64 p0.from_.X, .int .i64 p0.from_.Y, encF J5 p0.a, encF J5 p0.b, encF jw p0.ahead, encF jw p0.aback], .int .i64 p1, .int .i64 p2] none = some (.bool r, fun _ => none) := by
 unfold jz at h
 by_cases c1 : (igt p1 0) = true
 · rw [if_pos c1] at h
   cases h3 : fget p0.a (isub .i64 p1 1) with
   | none => (rw [h3] at h; cases h)
   | some v4 =>
    simp only [h3] at h
    have f2 := K5 (e := J5) h3
    cases h6 : fget p0.a p1 with
    | none => (rw [h6] at h; cases h)
    | some v7 =>
     simp only [h6] at h
     have f5 := K5 (e := J5) h6
     have f8 := Yr v4.a1 v7.a0
     cases h10 : fget p0.ahead p2 with
     | none => (rw [h10] at h; cases h)
     | some v11 =>
      simp only [h10] at h
      have f9 := K5 (e := jw) h10
      cases h13 : fget p0.ahead p1 with
      | none => (rw [h13] at h; cases h)
      | some v14 =>
       simp only [h13] at h
       have f12 := K5 (e := jw) h13
       cases h16 : fget p0.b p2 with
       | none => (rw [h16] at h; cases h)
       | some v17 =>
        simp only [h16] at h
        have f15 := K5 (e := J5) h16
        have f18 := Yr v4.a1 v17.a0
        cases h20 : fget p0.aback p2 with
        | none => (rw [h20] at h; cases h)
        | some v21 =>
         simp only [h20] at h
         have f19 := K5 (e := jw) h20
         cases h23 : fget p0.aback p1 with
         | none => (rw [h23] at h; cases h)
         | some v24 =>
          simp only [h23] at h
          have f22 := K5 (e := jw) h23
          by_cases c25 : (ilt (iadd .i64 p2 1) (flen p0.a)) = true
          · rw [if_pos c25] at h
            cases h27 : fget p0.a p2 with
            | none => (rw [h27] at h; cases h)
            | some v28 =>
             simp only [h27] at h
             have f26 := K5 (e := J5) h27
             cases h30 : fget p0.a (iadd .i64 p2 1) with
             | none => (rw [h30] at h; cases h)
             | some v31 =>
              simp only [h30] at h
              have f29 := K5 (e := J5) h30
              have f32 := Yr v28.a1 v31.a0
              cases h34 : fget p0.b p1 with
              | none => (rw [h34] at h; cases h)
              | some v35 =>
               simp only [h34] at h
               have f33 := K5 (e := J5) h34
               have f37 := Yr v35.a1 v31.a0
               cases h
               refine J9 (lf := lf76) rfl rfl rfl ?_
               simp only [lf76, lc76]
               simp (maxSteps := 4000000) [c1, c25, f2, f5, f8, f9, f12, f15, f18, f19, f22, f26, f29, f32, f33, f37]
          · rw [if_neg c25] at h
            rw [Bool.not_eq_true] at c25
            cases h
            refine J9 (lf := lf76) rfl rfl rfl ?_
            simp only [lf76, lc76]
            simp (maxSteps := 4000000) [c1, c25, f2, f5, f8, f9, f12, f15, f18, f19, f22]
 · rw [if_neg c1] at h
   rw [Bool.not_eq_true] at c1
   cases h39 : fget p0.a p1 with
   | none => (rw [h39] at h; cases h)
   | some v40 =>
    simp only [h39] at h
    have f38 := K5 (e := J5) h39
    have f41 := Yr p0.from_ v40.a0
    cases h43 : fget p0.ahead p2 with
    | none => (rw [h43] at h; cases h)
    | some v44 =>
     simp only [h43] at h
     have f42 := K5 (e := jw) h43
     cases h46 : fget p0.ahead p1 with
     | none => (rw [h46] at h; cases h)
     | some v47 =>
      simp only [h46] at h
      have f45 := K5 (e := jw) h46
      cases h49 : fget p0.b p2 with
      | none => (rw [h49] at h; cases h)
      | some v50 =>
       simp only [h49] at h
       have f48 := K5 (e := J5) h49
       have f51 := Yr p0.from_ v50.a0
       cases h53 : fget p0.aback p2 with
       | none => (rw [h53] at h; cases h)
       | some v54 =>
        simp only [h53] at h
        have f52 := K5 (e := jw) h53
        cases h56 : fget p0.aback p1 with
        | none => (rw [h56] at h; cases h)
        | some v57 =>
         simp only [h56] at h
         have f55 := K5 (e := jw) h56
         by_cases c58 : (ilt (iadd .i64 p2 1) (flen p0.a)) = true
         · rw [if_pos c58] at h
           cases h60 : fget p0.a p2 with
           | none => (rw [h60] at h; cases h)
           | some v61 =>
            simp only [h60] at h
            have f59 := K5 (e := J5) h60
            cases h63 : fget p0.a (iadd .i64 p2 1) with
            | none => (rw [h63] at h; cases h)
            | some v64 =>
             simp only [h63] at h
             have f62 := K5 (e := J5) h63
             have f65 := Yr v61.a1 v64.a0
             cases h67 : fget p0.b p1 with
             | none => (rw [h67] at h; cases h)
             | some v68 =>
              simp only [h67] at h
              have f66 := K5 (e := J5) h67
              have f70 := Yr v68.a1 v64.a0
              cases h
              refine J9 (lf := lf76) rfl rfl rfl ?_
              simp only [lf76, lc76]
              simp (maxSteps := 4000000) [c1, c58, f38, f41, f42, f45, f48, f51, f52, f55, f59, f62, f65, f66, f70]
         · rw [if_neg c58] at h
           rw [Bool.not_eq_true] at c58
           cases h
           refine J9 (lf := lf76) rfl rfl rfl ?_
           simp only [lf76, lc76]
           simp (maxSteps := 4000000) [c1, c58, f38, f41, f42, f45, f48, f51, f52, f55]

/-! order.plan).step -/
attribute [simp] c61_0 c61_1 c61_2 c61_3 c61_4 c61_5 c61_6 c61_7 c61_8 Ju4 c61_12
theorem c61_L0_u (Γ : Env) (ps : List Nat) (σ : St) : EC Γ ps 0 Jiq σ = EC Γ ps 0 (.seq (.seq (.reg false c61_5) (.cond (.t 18) .skip (.seq (.trim [1, 9, 10]) (.exit 2)))) (.seq (.blk 3 (.seq (.reg false c61_6) (.cond (.t 24) (.seq (.reg false c61_7) (.seq (.trim [2, 3, 4]) .ret)) .skip))) (.reg false c61_8))) σ := rfl
theorem c61_L1_u (Γ : Env) (ps : List Nat) (σ : St) : EC Γ ps 0 Jkb σ = EC Γ ps 0 (.seq (.reg false c61_2) (.seq (.cond (.t 11) .skip (.seq (.trim []) (.exit 0))) (.seq (.blk 1 (.seq (.reg false c61_3) (.seq (.reg false c61_4) (.blk 2 (.loop [1, 5, 6, 9, 10] Jiq))))) (.reg false Ju4)))) σ := rfl
attribute [simp ↓] c61_L0_u c61_L1_u
def X7 (k0 : K9) (k1 : Int) (k2 : Int) (k3 : Int) (s : Int) : Option (LR Int ((Int × Int × Bool) ⊕ Unit)) := match s with
 | s0 => (if (ilt s0 (flen k0.a)) = true then (match jz k0 k1 s0 with
 | none => none
 | some v5 => (if v5 = true then some (.dn (.inl (k1, s0, true)))
 else some (.nx (iadd .i64 s0 1))))
 else some (.dn (.inr ())))
def Qi (k0 : K9) (k1 : Int) (k2 : Int) (k3 : Int) (s : Int) : St := match s with
 | s0 => ⟨fr [(1, .ptr 1 0 0), (5, .int .i64 k1), (6, .int .i64 s0), (9, .int .i64 k2), (10, .int .i64 k3)], hl [(1, .box 0 [.int .i64 k0.from_.X, .int .i64 k0.from_.Y, encF J5 k0.a, encF J5 k0.b, encF jw k0.ahead, encF jw k0.aback])]⟩
def Xp (k0 : K9) (k1 : Int) (k2 : Int) (k3 : Int) (x : ((Int × Int × Bool) ⊕ Unit)) : LE × St := match x with
 | .inl x => (.ret, ⟨fr [(2, .int .i64 x.1), (3, .int .i64 x.2.1), (4, .bool x.2.2)], hl []⟩)
 | .inr x => (.exit 2, ⟨fr [(1, .ptr 1 0 0), (9, .int .i64 k2), (10, .int .i64 k3)], hl [(1, .box 0 [.int .i64 k0.from_.X, .int .i64 k0.from_.Y, encF J5 k0.a, encF J5 k0.b, encF jw k0.ahead, encF jw k0.aback])]⟩)
theorem Jer {k0 : K9} {k1 : Int} {k2 : Int} {k3 : Int} {s : Int} {r : ((Int × Int × Bool) ⊕ Unit)} (h : Ku (X7 k0 k1 k2 k3) bigN s = some r) : LK env [] 0 [1, 5, 6, 9, 10] Jiq (some (Qi k0 k1 k2 k3 s)) = some (Xp k0 k1 k2 k3 r) := Q3 (st := Qi k0 k1 k2 k3) (out := Xp k0 k1 k2 k3) (by
 clear h s r
 rintro s0 x h
 simp only [X7] at h
 by_cases c2 : (ilt s0 (flen k0.a)) = true
 · rw [if_pos c2] at h
   cases h4 : jz k0 k1 s0 with
   | none => (rw [h4] at h; cases h)
   | some v5 =>
    simp only [h4] at h
    have f3 := Jfi h4
    by_cases c6 : v5 = true
    · rw [if_pos c6] at h
      cases h
      show LK env [] 0 [1, 5, 6, 9, 10] Jiq (some (Qi _ _ _ _ _)) = some (Xp _ _ _ _ _)
      simp only [Qi, Xp]
      rw [J4]
      simp (maxSteps := 4000000) [c2, c6, f3]
    · rw [if_neg c6] at h
      rw [Bool.not_eq_true] at c6
      cases h
      show LK env [] 0 [1, 5, 6, 9, 10] Jiq (some (Qi _ _ _ _ _)) = LK env [] 0 [1, 5, 6, 9, 10] Jiq (some (Qi _ _ _ _ _))
      simp only [Qi]
      rw [J4]
      simp (maxSteps := 4000000) [c2, c6, f3]
 · rw [if_neg c2] at h
   rw [Bool.not_eq_true] at c2
   cases h
   show LK env [] 0 [1, 5, 6, 9, 10] Jiq (some (Qi _ _ _ _ _)) = some (Xp _ _ _ _ _)
   simp only [Qi, Xp]
   rw [J4]
   simp (maxSteps := 4000000) [c2]) bigN s r h
def Yu (k0 : K9) (k1 : Int) (s : Int) : Option (LR Int ((Int × Int × Bool) ⊕ Unit)) := match s with
 | s0 => (if (ilt s0 k1) = true then (match Ku (X7 k0 s0 k1 s0) bigN s0 with
 | none => none
 | some v8 => (match v8 with
 | .inl v8x => some (.dn (.inl (v8x.1, v8x.2.1, v8x.2.2)))
 | .inr v8x => some (.nx (iadd .i64 s0 1))))
 else some (.dn (.inr ())))
def Qj (k0 : K9) (k1 : Int) (s : Int) : St := match s with
 | s0 => ⟨fr [(1, .ptr 1 0 0), (9, .int .i64 k1), (10, .int .i64 s0)], hl [(1, .box 0 [.int .i64 k0.from_.X, .int .i64 k0.from_.Y, encF J5 k0.a, encF J5 k0.b, encF jw k0.ahead, encF jw k0.aback])]⟩
def Xr (k0 : K9) (k1 : Int) (x : ((Int × Int × Bool) ⊕ Unit)) : LE × St := match x with
 | .inl x => (.ret, ⟨fr [(2, .int .i64 x.1), (3, .int .i64 x.2.1), (4, .bool x.2.2)], hl []⟩)
 | .inr x => (.exit 0, ⟨fr [], hl []⟩)
theorem Jes {k0 : K9} {k1 : Int} {s : Int} {r : ((Int × Int × Bool) ⊕ Unit)} (h : Ku (Yu k0 k1) bigN s = some r) : LK env [] 0 [1, 9, 10] Jkb (some (Qj k0 k1 s)) = some (Xr k0 k1 r) := Q3 (st := Qj k0 k1) (out := Xr k0 k1) (by
 clear h s r
 rintro s0 x h
 simp only [Yu] at h
 by_cases c1 : (ilt s0 k1) = true
 · rw [if_pos c1] at h
   cases h7 : Ku (X7 k0 s0 k1 s0) bigN s0 with
   | none => (rw [h7] at h; cases h)
   | some v8 =>
    simp only [h7] at h
    have f9 := Jer h7
    cases v8 with
    | inl v8x =>
     try simp only at h
     simp only [Qi, Xp, J8] at f9
     try simp only [Jj, Ji, Jm, Jw, Jt, Ju, Jv, Js] at f9
     cases h
     show LK env [] 0 [1, 9, 10] Jkb (some (Qj _ _ _)) = some (Xr _ _ _)
     simp only [Qj, Xr]
     rw [J4]
     try simp only [c1] at f9
     simp (maxSteps := 4000000) [c1, f9]
    | inr v8x =>
     try simp only at h
     simp only [Qi, Xp, J8] at f9
     try simp only [Jj, Ji, Jm, Jw, Jt, Ju, Jv, Js] at f9
     cases h
     show LK env [] 0 [1, 9, 10] Jkb (some (Qj _ _ _)) = LK env [] 0 [1, 9, 10] Jkb (some (Qj _ _ _))
     simp only [Qj]
     rw [J4]
     try simp only [c1] at f9
     simp (maxSteps := 4000000) [c1, f9]
 · rw [if_neg c1] at h
   rw [Bool.not_eq_true] at c1
   cases h
   show LK env [] 0 [1, 9, 10] Jkb (some (Qj _ _ _)) = some (Xr _ _ _)
   simp only [Qj, Xr]
   rw [J4]
   simp (maxSteps := 4000000) [c1]) bigN s r h
def Zx (p0 : K9) : Option (Int × Int × Bool) := (match Ku (Yu p0 (flen p0.a)) bigN 0 with
 | none => none
 | some v11 => (match v11 with
 | .inl v11x => some (v11x.1, v11x.2.1, v11x.2.2)
 | .inr v11x => some (0, 0, false)))
theorem Jcg {p0 : K9} {r : (Int × Int × Bool)} (h : Zx p0 = some r) : FC env 61 [.agg [.int .i64 p0.from_.X, .int .i64 p0.from_.Y, encF J5 p0.a, encF J5 p0.b, encF jw p0.ahead, encF jw p0.aback]] none = some (.tup [.int .i64 r.1, .int .i64 r.2.1, .bool r.2.2], fun _ => none) := by
 unfold Zx at h
 cases h12 : Ku (Yu p0 (flen p0.a)) bigN 0 with
 | none => (rw [h12] at h; cases h)
 | some v13 =>
  simp only [h12] at h
  have f14 := Jes h12
  cases v13 with
  | inl v13x =>
   try simp only at h
   simp only [Qj, Xr, J8] at f14
   try simp only [Jj, Ji, Jm, Jw, Jt, Ju, Jv, Js] at f14
   cases h
   refine J9 (lf := lf61) rfl rfl rfl ?_
   simp only [lf61, lc61]
   simp (maxSteps := 4000000) [f14, jk, tupS, Z5, Zc, Z9, Zf, Z2]
  | inr v13x =>
   try simp only at h
   simp only [Qj, Xr, J8] at f14
   try simp only [Jj, Ji, Jm, Jw, Jt, Ju, Jv, Js] at f14
   cases h
   refine J9 (lf := lf61) rfl rfl rfl ?_
   simp only [lf61, lc61]
   simp (maxSteps := 4000000) [f14, jk, tupS, Z5, Zc, Z9, Zf, Z2]

/-! order.Improve -/
attribute [simp] c42_0 c42_1 c42_2 c42_3 c42_4 c42_5 c42_6 c42_7 c42_8 c42_9 Jwc J0u Jxc Jyk J0v Jx0 Jyj Jwo c42_21
theorem c42_L0_u (Γ : Env) (ps : List Nat) (σ : St) : EC Γ ps 0 Jiz σ = EC Γ ps 0 (.seq (.seq (.reg false c42_9) (.cond (.t 40) .skip (.seq (.trim [3, 7, 8, 9, 10]) (.exit 2)))) (.seq (.blk 3 (.reg true Jwc)) (.reg false J0u))) σ := rfl
theorem c42_L1_u (Γ : Env) (ps : List Nat) (σ : St) : EC Γ ps 0 Jgl σ = EC Γ ps 0 (.seq (.seq (.reg false Jyk) (.cond (.t 62) .skip (.seq (.trim [3, 7, 8]) (.exit 4)))) (.seq (.blk 5 (.seq (.reg false J0v) (.cond (.t 70) (.reg false Jx0) .skip))) (.reg false Jyj))) σ := rfl
theorem c42_L2_u (Γ : Env) (ps : List Nat) (σ : St) : EC Γ ps 0 Jaz σ = EC Γ ps 0 (.seq (.seq (.reg false c42_5) (.cond (.t 23) .skip (.seq (.trim [7]) (.exit 0)))) (.seq (.blk 1 (.seq (.reg false c42_6) (.seq (.seq (.reg false c42_7) (.cond (.t 35) (.seq (.trim [7]) (.exit 0)) .skip)) (.seq (.seq (.reg false c42_8) (.blk 2 (.loop [3, 7, 8, 9, 10, 12, 13] Jiz))) (.seq (.reg false Jxc) (.blk 4 (.loop [3, 7, 8, 10, 14] Jgl))))))) (.reg false Jwo))) σ := rfl
attribute [simp ↓] c42_L0_u c42_L1_u c42_L2_u
def Y1 (k0 : Ja) (k1 : Int) (k2 : Int) (k3 : Int) (s : ((FS Jc) × Int × Int)) : Option (LR ((FS Jc) × Int × Int) (FS Jc)) := match s with
 | (s0, s1, s2) => (if (ilt s1 s2) = true then (match fget s0 s2 with
 | none => none
 | some v17 => (match fget s0 s1 with
 | none => none
 | some v21 => (match fget (fset s0 s1 v17) s2 with
 | none => none
 | some v28 => some (.nx ((fset (fset s0 s1 v17) s2 v21), (iadd .i64 s1 1), (isub .i64 s2 1))))))
 else some (.dn s0))
def Q2 (k0 : Ja) (k1 : Int) (k2 : Int) (k3 : Int) (s : ((FS Jc) × Int × Int)) : St := match s with
 | (s0, s1, s2) => (Jab s0 (⟨fr [(3, .ptr 3 0 0), (7, .nils), (8, .int .i64 k1), (9, .int .i64 k2), (10, .int .i64 k3), (12, .int .i64 s1), (13, .int .i64 s2)], hl [(3, .box 0 [.int .i64 k0.X, .int .i64 k0.Y])]⟩)
  (fun l0 => ⟨fr [(3, .ptr 3 0 0), (7, .arr 7 0 0 l0.l.length), (8, .int .i64 k1), (9, .int .i64 k2), (10, .int .i64 k3), (12, .int .i64 s1), (13, .int .i64 s2)], hl [(3, .box 0 [.int .i64 k0.X, .int .i64 k0.Y]), (7, .arr 0 3 50 (Jn Jg l0.l) false)]⟩))
def X6 (k0 : Ja) (k1 : Int) (k2 : Int) (k3 : Int) (x : (FS Jc)) : LE × St := (Jab x (.exit 2, ⟨fr [(3, .ptr 3 0 0), (7, .nils), (8, .int .i64 k1), (9, .int .i64 k2), (10, .int .i64 k3)], hl [(3, .box 0 [.int .i64 k0.X, .int .i64 k0.Y])]⟩)
  (fun l0 => (.exit 2, ⟨fr [(3, .ptr 3 0 0), (7, .arr 7 0 0 l0.l.length), (8, .int .i64 k1), (9, .int .i64 k2), (10, .int .i64 k3)], hl [(3, .box 0 [.int .i64 k0.X, .int .i64 k0.Y]), (7, .arr 0 3 50 (Jn Jg l0.l) false)]⟩)))
theorem Jb2 {k0 : Ja} {k1 : Int} {k2 : Int} {k3 : Int} {s : ((FS Jc) × Int × Int)} {r : (FS Jc)} (h : Ku (Y1 k0 k1 k2 k3) bigN s = some r) : LK env [] 0 [3, 7, 8, 9, 10, 12, 13] Jiz (some (Q2 k0 k1 k2 k3 s)) = some (X6 k0 k1 k2 k3 r) := Q3 (st := Q2 k0 k1 k2 k3) (out := X6 k0 k1 k2 k3) (by
 clear h s r
 rintro ⟨s0, s1, s2⟩ x h
 simp only [Y1] at h
 cases e25 : s0 with
 | nil =>
  try simp only [e25, J3] at h
  by_cases c26 : (ilt s1 s2) = true
  · rw [if_pos c26] at h
    exact absurd h (by simp [Jbj])
  · rw [if_neg c26] at h
    rw [Bool.not_eq_true] at c26
    cases h
    show LK env [] 0 [3, 7, 8, 9, 10, 12, 13] Jiz (some (Q2 _ _ _ _ _)) = some (X6 _ _ _ _ _)
    simp only [Q2, X6, e25]
    rw [J4]
    simp (maxSteps := 4000000) [c26, e25]
 | lst l24 =>
  try simp only [e25] at h
  by_cases c27 : (ilt s1 s2) = true
  · rw [if_pos c27] at h
    cases h30 : fget (FS.lst l24) s2 with
    | none => (rw [h30] at h; cases h)
    | some v31 =>
     simp only [h30] at h
     have f28 := Y3 (w := 3) h30
     have f29 := h30
     have f32 := (Z1 (e := Jg) f29 true 3 (by decide) (by decide))
     simp only [Jg] at f32
     cases h35 : fget (FS.lst l24) s1 with
     | none => (rw [h35] at h; cases h)
     | some v36 =>
      simp only [h35] at h
      have f33 := Y3 (w := 3) h35
      have f34 := h35
      have f37 := (Z1 (e := Jg) f34 true 3 (by decide) (by decide))
      simp only [Jg] at f37
      have f40 := @Jd5 _ _ Jg _ (FS.lst l24) s1 v36 v31 f34 [.int .i64 v31.Role, .bool v31.Closed, encF Jh v31.Cells] (by simp) (by simp [Jg])
      have f41 := Jku (w := 3) f34 3 (by decide)
      try simp at f41
      cases h44 : fget (fset (FS.lst l24) s1 v31) s2 with
      | none => (rw [h44] at h; cases h)
      | some v45 =>
       simp only [h44] at h
       have f42 := Y3 (w := 3) h44
       try simp only [J8] at f42
       have f43 := h44
       have f46 := @Jd5 _ _ Jg _ (fset (FS.lst l24) s1 v31) s2 v45 v36 f43 [.int .i64 v36.Role, .bool v36.Closed, encF Jh v36.Cells] (by simp) (by simp [Jg])
       have f47 := Jku (w := 3) f43 3 (by decide)
       try simp at f47
       cases h
       show LK env [] 0 [3, 7, 8, 9, 10, 12, 13] Jiz (some (Q2 _ _ _ _ _)) = LK env [] 0 [3, 7, 8, 9, 10, 12, 13] Jiz (some (Q2 _ _ _ _ _))
       simp only [Q2, e25]
       rw [J4]
       simp (maxSteps := 4000000) [c27, e25, f28, f32, f33, f37, f40, f41, f42, f46, f47]
  · rw [if_neg c27] at h
    rw [Bool.not_eq_true] at c27
    cases h
    show LK env [] 0 [3, 7, 8, 9, 10, 12, 13] Jiz (some (Q2 _ _ _ _ _)) = some (X6 _ _ _ _ _)
    simp only [Q2, X6, e25]
    rw [J4]
    simp (maxSteps := 4000000) [c27, e25]) bigN s r h
def Xk (k0 : Ja) (k1 : Int) (k2 : Int) (s : ((FS Jc) × Int)) : Option (LR ((FS Jc) × Int) (FS Jc)) := match s with
 | (s0, s1) => (if (ile s1 k2) = true then (match fget s0 s1 with
 | none => none
 | some v37 => (if (bnot v37.Closed) = true then (match jv v37 with
 | none => none
 | some v44 => some (.nx ((fset s0 s1 v44), (iadd .i64 s1 1))))
 else some (.nx (s0, (iadd .i64 s1 1)))))
 else some (.dn s0))
def Kr (k0 : Ja) (k1 : Int) (k2 : Int) (s : ((FS Jc) × Int)) : St := match s with
 | (s0, s1) => (Jab s0 (⟨fr [(3, .ptr 3 0 0), (7, .nils), (8, .int .i64 k1), (10, .int .i64 k2), (14, .int .i64 s1)], hl [(3, .box 0 [.int .i64 k0.X, .int .i64 k0.Y])]⟩)
  (fun l0 => ⟨fr [(3, .ptr 3 0 0), (7, .arr 7 0 0 l0.l.length), (8, .int .i64 k1), (10, .int .i64 k2), (14, .int .i64 s1)], hl [(3, .box 0 [.int .i64 k0.X, .int .i64 k0.Y]), (7, .arr 0 3 50 (Jn Jg l0.l) false)]⟩))
def Xa (k0 : Ja) (k1 : Int) (k2 : Int) (x : (FS Jc)) : LE × St := (Jab x (.exit 4, ⟨fr [(3, .ptr 3 0 0), (7, .nils), (8, .int .i64 k1)], hl [(3, .box 0 [.int .i64 k0.X, .int .i64 k0.Y])]⟩)
  (fun l0 => (.exit 4, ⟨fr [(3, .ptr 3 0 0), (7, .arr 7 0 0 l0.l.length), (8, .int .i64 k1)], hl [(3, .box 0 [.int .i64 k0.X, .int .i64 k0.Y]), (7, .arr 0 3 50 (Jn Jg l0.l) false)]⟩)))
theorem zy {k0 : Ja} {k1 : Int} {k2 : Int} {s : ((FS Jc) × Int)} {r : (FS Jc)} (h : Ku (Xk k0 k1 k2) bigN s = some r) : LK env [] 0 [3, 7, 8, 10, 14] Jgl (some (Kr k0 k1 k2 s)) = some (Xa k0 k1 k2 r) := Q3 (st := Kr k0 k1 k2) (out := Xa k0 k1 k2) (by
 clear h s r
 rintro ⟨s0, s1⟩ x h
 simp only [Xk] at h
 cases e55 : s0 with
 | nil =>
  try simp only [e55, J3] at h
  by_cases c56 : (ile s1 k2) = true
  · rw [if_pos c56] at h
    exact absurd h (by simp [Jbj])
  · rw [if_neg c56] at h
    rw [Bool.not_eq_true] at c56
    cases h
    show LK env [] 0 [3, 7, 8, 10, 14] Jgl (some (Kr _ _ _ _)) = some (Xa _ _ _ _)
    simp only [Kr, Xa, e55]
    rw [J4]
    simp (maxSteps := 4000000) [c56, e55]
 | lst l54 =>
  try simp only [e55] at h
  by_cases c57 : (ile s1 k2) = true
  · rw [if_pos c57] at h
    cases h60 : fget (FS.lst l54) s1 with
    | none => (rw [h60] at h; cases h)
    | some v61 =>
     simp only [h60] at h
     have f58 := Y3 (w := 3) h60
     have f59 := h60
     have f62 := (Jjm (e := Jg) f59 false 1 1 (by decide) (by decide))
     simp only [Jg] at f62
     by_cases c63 : (bnot v61.Closed) = true
     · rw [if_pos c63] at h
       have f66 := (Z1 (e := Jg) f59 true 3 (by decide) (by decide))
       simp only [Jg] at f66
       cases h68 : jv v61 with
       | none => (rw [h68] at h; cases h)
       | some v69 =>
        simp only [h68] at h
        have f67 := Jdk h68
        have f72 := @Jd5 _ _ Jg _ (FS.lst l54) s1 v61 v69 f59 [.int .i64 v69.Role, .bool v69.Closed, encF Jh v69.Cells] (by simp) (by simp [Jg])
        have f73 := Jku (w := 3) f59 3 (by decide)
        try simp at f73
        cases h
        show LK env [] 0 [3, 7, 8, 10, 14] Jgl (some (Kr _ _ _ _)) = LK env [] 0 [3, 7, 8, 10, 14] Jgl (some (Kr _ _ _ _))
        simp only [Kr, e55]
        rw [J4]
        rcases tof v61.Closed with a74 | a74
        · simp [c57, a74] at c63
        · try simp only [a74] at f58 f62 f66 f67 f72 f73
          simp (maxSteps := 4000000) [c57, a74, e55, f58, f62, f66, f67, f72, f73]
     · rw [if_neg c63] at h
       rw [Bool.not_eq_true] at c63
       cases h
       show LK env [] 0 [3, 7, 8, 10, 14] Jgl (some (Kr _ _ _ _)) = LK env [] 0 [3, 7, 8, 10, 14] Jgl (some (Kr _ _ _ _))
       simp only [Kr, e55]
       rw [J4]
       rcases tof v61.Closed with a75 | a75
       · try simp only [a75] at f58 f62
         simp (maxSteps := 4000000) [c57, a75, e55, f58, f62]
       · simp [c57, a75] at c63
  · rw [if_neg c57] at h
    rw [Bool.not_eq_true] at c57
    cases h
    show LK env [] 0 [3, 7, 8, 10, 14] Jgl (some (Kr _ _ _ _)) = some (Xa _ _ _ _)
    simp only [Kr, Xa, e55]
    rw [J4]
    simp (maxSteps := 4000000) [c57, e55]) bigN s r h
def Yf (k0 : Ja) (s : ((FS Jc) × Int)) : Option (LR ((FS Jc) × Int) (FS Jc)) := match s with
 | (s0, s1) => (if (igt s1 0) = true then (match Z8 k0 s0 with
 | none => none
 | some v8 => (if ieq (flen v8.2) (flen s0) = true then (match Zx v8.1 with
 | none => none
 | some v12 => (if (bnot v12.2.2) = true then some (.dn v8.2)
 else (match Ku (Y1 k0 s1 v12.1 v12.2.1) bigN (v8.2, v12.1, v12.2.1) with
 | none => none
 | some v32 => (match Ku (Xk k0 s1 v12.2.1) bigN (v32, v12.1) with
 | none => none
 | some v49 => some (.nx (v49, (isub .i64 s1 1))))))) else none))
 else some (.dn s0))
def J0 (k0 : Ja) (s : ((FS Jc) × Int)) : St := match s with
 | (s0, s1) => (Jab s0 (⟨fr [(3, .ptr 3 0 0), (7, .nils), (8, .int .i64 s1)], hl [(3, .box 0 [.int .i64 k0.X, .int .i64 k0.Y])]⟩)
  (fun l0 => ⟨fr [(3, .ptr 3 0 0), (7, .arr 7 0 0 l0.l.length), (8, .int .i64 s1)], hl [(3, .box 0 [.int .i64 k0.X, .int .i64 k0.Y]), (7, .arr 0 3 50 (Jn Jg l0.l) false)]⟩))
def Qg (k0 : Ja) (x : (FS Jc)) : LE × St := (Jab x (.exit 0, ⟨fr [(7, .nils)], hl []⟩)
  (fun l0 => (.exit 0, ⟨fr [(7, .arr 7 0 0 l0.l.length)], hl [(7, .arr 0 3 50 (Jn Jg l0.l) false)]⟩)))
theorem Jb5 {k0 : Ja} {s : ((FS Jc) × Int)} {r : (FS Jc)} (h : Ku (Yf k0) bigN s = some r) : LK env [] 0 [3, 7, 8] Jaz (some (J0 k0 s)) = some (Qg k0 r) := Q3 (st := J0 k0) (out := Qg k0) (by
 clear h s r
 rintro ⟨s0, s1⟩ x h
 simp only [Yf] at h
 cases e11 : s0 with
 | nil =>
  try simp only [e11, J3] at h
  by_cases c12 : (igt s1 0) = true
  · rw [if_pos c12] at h
    cases h13 : Z8 k0 (FS.nil : (FS Jc)) with
    | none => (rw [h13] at h; cases h)
    | some v14 =>
     simp only [h13] at h
     obtain ⟨f15, e16⟩ := Jg4 h13
     simp only [e16, J3] at h
     try simp only [J8, Xs, Jj, Ji, Jm, Jw, Jt, Ju, Jv, Js] at f15
     by_cases h17 : ieq 0 0 = true
     · rw [if_pos h17] at h
       try simp only [Jj, Ji, Jm, Jw, Jt, Ju, Jv, Js] at f15
       cases h20 : Zx v14.1 with
       | none => (rw [h20] at h; cases h)
       | some v21 =>
        simp only [h20] at h
        have f19 := Jcg h20
        by_cases c22 : (bnot v21.2.2) = true
        · rw [if_pos c22] at h
          cases h
          show LK env [] 0 [3, 7, 8] Jaz (some (J0 _ _)) = some (Qg _ _)
          simp only [J0, Qg, e11]
          rw [J4]
          rcases tof v21.2.2 with a23 | a23
          · simp [c12, a23] at c22
          · try simp only [c12, a23] at f15
            simp (maxSteps := 4000000) [c12, a23, e11, e16, f15, f19]
        · rw [if_neg c22] at h
          rw [Bool.not_eq_true] at c22
          cases h48 : Ku (Y1 k0 s1 v21.1 v21.2.1) bigN ((FS.nil : (FS Jc)), v21.1, v21.2.1) with
          | none => (rw [h48] at h; cases h)
          | some v49 =>
           simp only [h48] at h
           have f50 := Jb2 h48
           simp only [Q2, X6, J8] at f50
           cases e53 : v49 with
           | nil =>
            try simp only [e53, J3] at h
            simp only [e53, J3, Jj, Ji] at f50
            cases h76 : Ku (Xk k0 s1 v21.2.1) bigN ((FS.nil : (FS Jc)), v21.1) with
            | none => (rw [h76] at h; cases h)
            | some v77 =>
             simp only [h76] at h
             have f78 := zy h76
             simp only [Kr, Xa, J8] at f78
             cases e81 : v77 with
             | nil =>
              try simp only [e81, J3] at h
              simp only [e81, J3, Jj, Ji] at f78
              cases h
              show LK env [] 0 [3, 7, 8] Jaz (some (J0 _ _)) = LK env [] 0 [3, 7, 8] Jaz (some (J0 _ _))
              simp only [J0, e11]
              rw [J4]
              rcases tof v21.2.2 with a82 | a82
              · try simp only [c12, a82] at f15 f50 f78
                simp (maxSteps := 4000000) [c12, a82, e11, e16, f15, f19, f50, e53, f78, e81]
              · simp [c12, a82] at c22
             | lst l80 =>
              try simp only [e81] at h
              simp only [e81, J3, Jj, Ji] at f78
              cases h
              show LK env [] 0 [3, 7, 8] Jaz (some (J0 _ _)) = LK env [] 0 [3, 7, 8] Jaz (some (J0 _ _))
              simp only [J0, e11]
              rw [J4]
              rcases tof v21.2.2 with a83 | a83
              · try simp only [c12, a83] at f15 f50 f78
                simp (maxSteps := 4000000) [c12, a83, e11, e16, f15, f19, f50, e53, f78, e81]
              · simp [c12, a83] at c22
           | lst l52 =>
            try simp only [e53] at h
            simp only [e53, J3, Jj, Ji] at f50
            cases h84 : Ku (Xk k0 s1 v21.2.1) bigN ((FS.lst l52), v21.1) with
            | none => (rw [h84] at h; cases h)
            | some v85 =>
             simp only [h84] at h
             have f86 := zy h84
             simp only [Kr, Xa, J8] at f86
             cases e89 : v85 with
             | nil =>
              try simp only [e89, J3] at h
              simp only [e89, J3, Jj, Ji] at f86
              cases h
              show LK env [] 0 [3, 7, 8] Jaz (some (J0 _ _)) = LK env [] 0 [3, 7, 8] Jaz (some (J0 _ _))
              simp only [J0, e11]
              rw [J4]
              rcases tof v21.2.2 with a90 | a90
              · try simp only [c12, a90] at f15 f50 f86
                simp (maxSteps := 4000000) [c12, a90, e11, e16, f15, f19, f50, e53, f86, e89]
              · simp [c12, a90] at c22
             | lst l88 =>
              try simp only [e89] at h
              simp only [e89, J3, Jj, Ji] at f86
              cases h
              show LK env [] 0 [3, 7, 8] Jaz (some (J0 _ _)) = LK env [] 0 [3, 7, 8] Jaz (some (J0 _ _))
              simp only [J0, e11]
              rw [J4]
              rcases tof v21.2.2 with a91 | a91
              · try simp only [c12, a91] at f15 f50 f86
                simp (maxSteps := 4000000) [c12, a91, e11, e16, f15, f19, f50, e53, f86, e89]
              · simp [c12, a91] at c22
     · rw [if_neg h17] at h; cases h
  · rw [if_neg c12] at h
    rw [Bool.not_eq_true] at c12
    cases h
    show LK env [] 0 [3, 7, 8] Jaz (some (J0 _ _)) = some (Qg _ _)
    simp only [J0, Qg, e11]
    rw [J4]
    simp (maxSteps := 4000000) [c12, e11]
 | lst l10 =>
  try simp only [e11] at h
  by_cases c92 : (igt s1 0) = true
  · rw [if_pos c92] at h
    cases h93 : Z8 k0 (FS.lst l10) with
    | none => (rw [h93] at h; cases h)
    | some v94 =>
     simp only [h93] at h
     obtain ⟨f95, e96⟩ := Jhw h93
     simp only [e96] at f95
     try simp only [e96] at h
     try simp only [J8, Xs, Jj, Ji, Jm, Jw, Jt, Ju, Jv, Js] at f95
     by_cases h97 : ieq (flen (FS.lst l10)) (flen (FS.lst l10)) = true
     · rw [if_pos h97] at h
       try simp only [Jj, Ji, Jm, Jw, Jt, Ju, Jv, Js] at f95
       have f99 : ∀ H : Heap, H 7 = some (.arr 0 3 50 (Jn Jg (FS.lst l10).l) false) → jt (FC env) 60 H [.agg [.int .i64 k0.X, .int .i64 k0.Y], .arr 7 0 0 (FS.lst l10).l.length] = some (.agg [.int .i64 v94.1.from_.X, .int .i64 v94.1.from_.Y, encF J5 v94.1.a, encF J5 v94.1.b, encF jw v94.1.ahead, encF jw v94.1.aback], upd H 7 (some (.arr 0 3 50 (Jn Jg (FS.lst l10).l) false))) := by
         intro H q0
         simp (maxSteps := 4000000) [q0, f95]
       cases h101 : Zx v94.1 with
       | none => (rw [h101] at h; cases h)
       | some v102 =>
        simp only [h101] at h
        have f100 := Jcg h101
        by_cases c103 : (bnot v102.2.2) = true
        · rw [if_pos c103] at h
          cases h
          show LK env [] 0 [3, 7, 8] Jaz (some (J0 _ _)) = some (Qg _ _)
          simp only [J0, Qg, e11]
          rw [J4]
          rcases tof v102.2.2 with a104 | a104
          · simp [c92, a104] at c103
          · try simp only [c92, a104] at f95
            simp (maxSteps := 4000000) [-Qq, c92, a104, e11, e96, f99, f95, f100]
        · rw [if_neg c103] at h
          rw [Bool.not_eq_true] at c103
          cases h105 : Ku (Y1 k0 s1 v102.1 v102.2.1) bigN ((FS.lst l10), v102.1, v102.2.1) with
          | none => (rw [h105] at h; cases h)
          | some v106 =>
           simp only [h105] at h
           have f107 := Jb2 h105
           simp only [Q2, X6, J8] at f107
           cases e110 : v106 with
           | nil =>
            try simp only [e110, J3] at h
            simp only [e110, J3, Jj, Ji] at f107
            cases h111 : Ku (Xk k0 s1 v102.2.1) bigN ((FS.nil : (FS Jc)), v102.1) with
            | none => (rw [h111] at h; cases h)
            | some v112 =>
             simp only [h111] at h
             have f113 := zy h111
             simp only [Kr, Xa, J8] at f113
             cases e116 : v112 with
             | nil =>
              try simp only [e116, J3] at h
              simp only [e116, J3, Jj, Ji] at f113
              cases h
              show LK env [] 0 [3, 7, 8] Jaz (some (J0 _ _)) = LK env [] 0 [3, 7, 8] Jaz (some (J0 _ _))
              simp only [J0, e11]
              rw [J4]
              rcases tof v102.2.2 with a117 | a117
              · try simp only [c92, a117] at f95 f107 f113
                simp (maxSteps := 4000000) [-Qq, c92, a117, e11, e96, f99, f95, f100, f107, e110, f113, e116]
              · simp [c92, a117] at c103
             | lst l115 =>
              try simp only [e116] at h
              simp only [e116, J3, Jj, Ji] at f113
              cases h
              show LK env [] 0 [3, 7, 8] Jaz (some (J0 _ _)) = LK env [] 0 [3, 7, 8] Jaz (some (J0 _ _))
              simp only [J0, e11]
              rw [J4]
              rcases tof v102.2.2 with a118 | a118
              · try simp only [c92, a118] at f95 f107 f113
                simp (maxSteps := 4000000) [-Qq, c92, a118, e11, e96, f99, f95, f100, f107, e110, f113, e116]
              · simp [c92, a118] at c103
           | lst l109 =>
            try simp only [e110] at h
            simp only [e110, J3, Jj, Ji] at f107
            cases h119 : Ku (Xk k0 s1 v102.2.1) bigN ((FS.lst l109), v102.1) with
            | none => (rw [h119] at h; cases h)
            | some v120 =>
             simp only [h119] at h
             have f121 := zy h119
             simp only [Kr, Xa, J8] at f121
             cases e124 : v120 with
             | nil =>
              try simp only [e124, J3] at h
              simp only [e124, J3, Jj, Ji] at f121
              cases h
              show LK env [] 0 [3, 7, 8] Jaz (some (J0 _ _)) = LK env [] 0 [3, 7, 8] Jaz (some (J0 _ _))
              simp only [J0, e11]
              rw [J4]
              rcases tof v102.2.2 with a125 | a125
              · try simp only [c92, a125] at f95 f107 f121
                simp (maxSteps := 4000000) [-Qq, c92, a125, e11, e96, f99, f95, f100, f107, e110, f121, e124]
              · simp [c92, a125] at c103
             | lst l123 =>
              try simp only [e124] at h
              simp only [e124, J3, Jj, Ji] at f121
              cases h
              show LK env [] 0 [3, 7, 8] Jaz (some (J0 _ _)) = LK env [] 0 [3, 7, 8] Jaz (some (J0 _ _))
              simp only [J0, e11]
              rw [J4]
              rcases tof v102.2.2 with a126 | a126
              · try simp only [c92, a126] at f95 f107 f121
                simp (maxSteps := 4000000) [-Qq, c92, a126, e11, e96, f99, f95, f100, f107, e110, f121, e124]
              · simp [c92, a126] at c103
     · rw [if_neg h97] at h; cases h
  · rw [if_neg c92] at h
    rw [Bool.not_eq_true] at c92
    cases h
    show LK env [] 0 [3, 7, 8] Jaz (some (J0 _ _)) = some (Qg _ _)
    simp only [J0, Qg, e11]
    rw [J4]
    simp (maxSteps := 4000000) [c92, e11]) bigN s r h
def ju (p0 : Ja) (p1 : (FS Jc)) (p2 : Int) : Option (FS Jc) := (if (bnot (Qv p0)) = true then some (FS.nil : (FS Jc))
 else (match zx p1 with
 | none => none
 | some v4 => (match Ku (Yf p0) bigN (v4, (imin p2 64)) with
 | none => none
 | some v52 => some v52)))
theorem Jdi {p0 : Ja} {p1 : (FS Jc)} {p2 : Int} {r : (FS Jc)} (h : ju p0 p1 p2 = some r) : FC env 42 [.agg [.int .i64 p0.X, .int .i64 p0.Y], encF Jg p1, .int .i64 p2] none = some (encF Jg r, fun _ => none) := by
 unfold ju at h
 have f1 := Jdy p0
 by_cases c2 : (bnot (Qv p0)) = true
 · rw [if_pos c2] at h
   cases h
   refine J9 (lf := lf42) rfl rfl rfl ?_
   simp only [lf42, lc42]
   rcases tof (Qv p0) with a3 | a3
   · simp [a3] at c2
   · simp (maxSteps := 4000000) [a3, f1]
 · rw [if_neg c2] at h
   rw [Bool.not_eq_true] at c2
   cases h4 : zx p1 with
   | none => (rw [h4] at h; cases h)
   | some v5 =>
    simp only [h4] at h
    have f6 := Je3 h4
    cases e8 : v5 with
    | nil =>
     try simp only [e8, J3] at h
     simp only [e8, J3, Jj, Ji] at f6
     have f9 : ∀ H : Heap, jt (FC env) 59 H [encF Jg p1] = some (.nils, H) := by
       intro H 
       simp (maxSteps := 4000000) [f6, e8]
     cases h127 : Ku (Yf p0) bigN ((FS.nil : (FS Jc)), (imin p2 64)) with
     | none => (rw [h127] at h; cases h)
     | some v128 =>
      simp only [h127] at h
      have f129 := Jb5 h127
      simp only [J0, Qg, J8] at f129
      cases e132 : v128 with
      | nil =>
       try simp only [e132, J3] at h
       simp only [e132, J3, Jj, Ji] at f129
       cases h
       refine J9 (lf := lf42) rfl rfl rfl ?_
       simp only [lf42, lc42]
       rcases tof (Qv p0) with a133 | a133
       · try simp only [a133] at f6 f129
         simp (maxSteps := 4000000) [-Qq, a133, f1, e8, f9, f6, f129, e132]
       · simp [a133] at c2
      | lst l131 =>
       try simp only [e132] at h
       simp only [e132, J3, Jj, Ji] at f129
       cases h
       refine J9 (lf := lf42) rfl rfl rfl ?_
       simp only [lf42, lc42]
       rcases tof (Qv p0) with a134 | a134
       · try simp only [a134] at f6 f129
         simp (maxSteps := 4000000) [-Qq, a134, f1, e8, f9, f6, f129, e132, Yd (e := Jg) (el := 50) (fz := false)]
       · simp [a134] at c2
    | lst l7 =>
     try simp only [e8] at h
     simp only [e8, J3, Jj, Ji] at f6
     have f135 : ∀ H : Heap, H 701059000 = none → jt (FC env) 59 H [encF Jg p1] = some (.arr 701059000 0 0 (FS.lst l7).l.length, upd H 701059000 (some (.arr 0 3 50 (Jn Jg (FS.lst l7).l) false))) := by
       intro H q0
       simp (maxSteps := 4000000) [q0, f6, e8]
     cases h136 : Ku (Yf p0) bigN ((FS.lst l7), (imin p2 64)) with
     | none => (rw [h136] at h; cases h)
     | some v137 =>
      simp only [h136] at h
      have f138 := Jb5 h136
      simp only [J0, Qg, J8] at f138
      cases e141 : v137 with
      | nil =>
       try simp only [e141, J3] at h
       simp only [e141, J3, Jj, Ji] at f138
       cases h
       refine J9 (lf := lf42) rfl rfl rfl ?_
       simp only [lf42, lc42]
       rcases tof (Qv p0) with a142 | a142
       · try simp only [a142] at f6 f138
         simp (maxSteps := 4000000) [-Qq, a142, f1, e8, f135, f6, f138, e141]
       · simp [a142] at c2
      | lst l140 =>
       try simp only [e141] at h
       simp only [e141, J3, Jj, Ji] at f138
       cases h
       refine J9 (lf := lf42) rfl rfl rfl ?_
       simp only [lf42, lc42]
       rcases tof (Qv p0) with a143 | a143
       · try simp only [a143] at f6 f138
         simp (maxSteps := 4000000) [-Qq, a143, f1, e8, f135, f6, f138, e141, Yd (e := Jg) (el := 50) (fz := false)]
       · simp [a143] at c2

/-! toolpath.builder).speed -/
attribute [simp] c67_0 c67_1
def Qf (p0 : Jd) (p1 : Int) : Option Int := (if ieq p0.s.Pitch 0 = true then none else some (imax (iquo .i64 p1 p0.s.Pitch) 1))
theorem Za {p0 : Jd} {p1 : Int} {r : Int} (h : Qf p0 p1 = some r) : FC env 67 [.rptr [encF Jz p0.list.ops, encF Jl p0.r.Rows, .int .i64 p0.s.Pitch, .int .i64 p0.s.Height, .int .i64 p0.s.Walls, .int .i64 p0.s.Top, .int .i64 p0.s.Bottom, .int .i64 p0.s.Pattern, .int .i64 p0.s.Spacing, .bool p0.s.Support, .int .i64 p0.s.Reach, .int .i64 p0.s.Gap, .int .i64 p0.s.Brim, .int .i64 p0.s.Skirt, .int .i64 p0.s.Drop, .int .i64 p0.s.Feed, .int .i64 p0.s.Travel, .int .i64 p0.s.Retract, .int .i64 p0.s.MinTime, .int .i64 p0.s.MinFeed, .int .i64 p0.s.Nozzle, .int .i64 p0.s.Bed, .int .i64 p0.nozzle.X, .int .i64 p0.nozzle.Y], .int .i64 p1] none = some (.int .i64 r, fun _ => none) := by
 unfold Qf at h
 by_cases h1 : ieq p0.s.Pitch 0 = true
 · rw [if_pos h1] at h; cases h
 · rw [if_neg h1] at h
   rw [Bool.not_eq_true] at h1
   cases h
   refine J9 (lf := lf67) rfl rfl rfl ?_
   simp only [lf67, lc67]
   simp (maxSteps := 4000000) [h1]

/-! cmp.isNaN_int -/
attribute [simp] c97_0 c97_1
def zj (p0 : Int) : Bool := (ine p0 p0)
def t_cmp_isNaN (p0 : Int) : Option Bool := some (zj p0)
theorem Jgi (p0 : Int) : FC env 97 [.int .i64 p0] none = some (.bool (zj p0), fun _ => none) := by
 unfold zj
 refine J9 (lf := lf97) rfl rfl rfl ?_
 simp only [lf97, lc97]
 simp (maxSteps := 4000000) []
/-! cmp.Compare_int -/
attribute [simp] c95_0 c95_1 c95_2 c95_3 c95_4 c95_5 c95_6 c95_7 c95_8 c95_9 c95_10 c95_11 c95_12 c95_13
def Ja4 (p0 : Int) (p1 : Int) : Option Int := (if (zj p0) = true then (if (zj p1) = true then some 0
 else some (-1))
 else (if (zj p1) = true then some 1
 else (if (ilt p0 p1) = true then some (-1)
 else (if (igt p0 p1) = true then some 1
 else some 0))))
theorem Jjc {p0 : Int} {p1 : Int} {r : Int} (h : Ja4 p0 p1 = some r) : FC env 95 [.int .i64 p0, .int .i64 p1] none = some (.int .i64 r, fun _ => none) := by
 unfold Ja4 at h
 have f1 := Jgi p0
 have f2 := Jgi p1
 by_cases c3 : (zj p0) = true
 · rw [if_pos c3] at h
   by_cases c4 : (zj p1) = true
   · rw [if_pos c4] at h
     cases h
     refine J9 (lf := lf95) rfl rfl rfl ?_
     simp only [lf95, lc95]
     simp (maxSteps := 4000000) [c3, c4, f1, f2]
   · rw [if_neg c4] at h
     rw [Bool.not_eq_true] at c4
     cases h
     refine J9 (lf := lf95) rfl rfl rfl ?_
     simp only [lf95, lc95]
     simp (maxSteps := 4000000) [c3, c4, f1, f2]
 · rw [if_neg c3] at h
   rw [Bool.not_eq_true] at c3
   by_cases c5 : (zj p1) = true
   · rw [if_pos c5] at h
     cases h
     refine J9 (lf := lf95) rfl rfl rfl ?_
     simp only [lf95, lc95]
     simp (maxSteps := 4000000) [c3, c5, f1, f2]
   · rw [if_neg c5] at h
     rw [Bool.not_eq_true] at c5
     by_cases c6 : (ilt p0 p1) = true
     · rw [if_pos c6] at h
       cases h
       refine J9 (lf := lf95) rfl rfl rfl ?_
       simp only [lf95, lc95]
       simp (maxSteps := 4000000) [c3, c5, c6, f1, f2]
     · rw [if_neg c6] at h
       rw [Bool.not_eq_true] at c6
       by_cases c7 : (igt p0 p1) = true
       · rw [if_pos c7] at h
         cases h
         refine J9 (lf := lf95) rfl rfl rfl ?_
         simp only [lf95, lc95]
         simp (maxSteps := 4000000) [c3, c5, c6, c7, f1, f2]
       · rw [if_neg c7] at h
         rw [Bool.not_eq_true] at c7
         cases h
         refine J9 (lf := lf95) rfl rfl rfl ?_
         simp only [lf95, lc95]
         simp (maxSteps := 4000000) [c3, c5, c6, c7, f1, f2]

/-! region.row$1 -/
attribute [simp] c94_0 c94_1
def zf (p0 : X9) (p1 : Int) : Option Int := (match Ja4 p0.Y p1 with
 | none => none
 | some v3 => some v3)
theorem Jef {p0 : X9} {p1 : Int} {r : Int} (h : zf p0 p1 = some r) : FC env 94 [.agg [.int .i64 p0.Y, encF Yc p0.Runs], .int .i64 p1] none = some (.int .i64 r, fun _ => none) := by
 unfold zf at h
 cases h2 : Ja4 p0.Y p1 with
 | none => (rw [h2] at h; cases h)
 | some v3 =>
  simp only [h2] at h
  have f1 := Jjc h2
  cases h
  refine J9 (lf := lf94) rfl rfl rfl ?_
  simp only [lf94, lc94]
  simp (maxSteps := 4000000) [f1]

/-! slices.BinarySearchFunc_api_Row_api_Row_int -/
attribute [simp] c93_0 c93_1 c93_2 c93_3 c93_4 c93_5 c93_6 c93_7 c93_9
theorem c93_L0_u (Γ : Env) (ps : List Nat) (σ : St) : EC Γ ps 0 Ji7 σ = EC Γ ps 0 (.seq (.seq (.reg false c93_3) (.cond (.t 17) .skip (.seq (.trim [0, 1, 2, 8, 9]) (.exit 0)))) (.blk 1 (.seq (.reg false c93_4) (.seq (.reg false c93_5) (.cond (.t 31) (.reg false c93_6) (.reg false c93_7)))))) σ := rfl
attribute [simp ↓] c93_L0_u
def J6 (k0 : (FS X9)) (k1 : Int) (k2 : Int) (s : (Int × Int)) : Option (LR (Int × Int) Int) := match s with
 | (s0, s1) => (if (ilt s0 s1) = true then (match fget k0 (icnv .i64 (ishr .u64 (icnv .u64 (iadd .i64 s0 s1)) 1)) with
 | none => none
 | some v4 => (match zf v4 k1 with
 | none => none
 | some v7 => (if (ilt v7 0) = true then some (.nx ((iadd .i64 (icnv .i64 (ishr .u64 (icnv .u64 (iadd .i64 s0 s1)) 1)) 1), s1))
 else some (.nx (s0, (icnv .i64 (ishr .u64 (icnv .u64 (iadd .i64 s0 s1)) 1)))))))
 else some (.dn s0))
def Jq (k0 : (FS X9)) (k1 : Int) (k2 : Int) (s : (Int × Int)) : St := match s with
 | (s0, s1) => ⟨fr [(0, encF Jl k0), (1, .int .i64 k1), (2, .fn 94 []), (8, .int .i64 k2), (9, .int .i64 s0), (10, .int .i64 s1)], hl []⟩
def Kj (k0 : (FS X9)) (k1 : Int) (k2 : Int) (x : Int) : LE × St := (.exit 0, ⟨fr [(0, encF Jl k0), (1, .int .i64 k1), (2, .fn 94 []), (8, .int .i64 k2), (9, .int .i64 x)], hl []⟩)
theorem Z0 {k0 : (FS X9)} {k1 : Int} {k2 : Int} {s : (Int × Int)} {r : Int} (h : Ku (J6 k0 k1 k2) bigN s = some r) : LK env [] 0 [0, 1, 2, 8, 9, 10] Ji7 (some (Jq k0 k1 k2 s)) = some (Kj k0 k1 k2 r) := Q3 (st := Jq k0 k1 k2) (out := Kj k0 k1 k2) (by
 clear h s r
 rintro ⟨s0, s1⟩ x h
 simp only [J6] at h
 by_cases c1 : (ilt s0 s1) = true
 · rw [if_pos c1] at h
   cases h3 : fget k0 (icnv .i64 (ishr .u64 (icnv .u64 (iadd .i64 s0 s1)) 1)) with
   | none => (rw [h3] at h; cases h)
   | some v4 =>
    simp only [h3] at h
    have f2 := K5 (e := Jl) h3
    cases h6 : zf v4 k1 with
    | none => (rw [h6] at h; cases h)
    | some v7 =>
     simp only [h6] at h
     have f5 := Jef h6
     by_cases c8 : (ilt v7 0) = true
     · rw [if_pos c8] at h
       cases h
       show LK env [] 0 [0, 1, 2, 8, 9, 10] Ji7 (some (Jq _ _ _ _)) = LK env [] 0 [0, 1, 2, 8, 9, 10] Ji7 (some (Jq _ _ _ _))
       simp only [Jq]
       rw [J4]
       simp (maxSteps := 4000000) [c1, c8, (show ilt 1 0 = false from rfl), f2, f5]
     · rw [if_neg c8] at h
       rw [Bool.not_eq_true] at c8
       cases h
       show LK env [] 0 [0, 1, 2, 8, 9, 10] Ji7 (some (Jq _ _ _ _)) = LK env [] 0 [0, 1, 2, 8, 9, 10] Ji7 (some (Jq _ _ _ _))
       simp only [Jq]
       rw [J4]
       simp (maxSteps := 4000000) [c1, c8, (show ilt 1 0 = false from rfl), f2, f5]
 · rw [if_neg c1] at h
   rw [Bool.not_eq_true] at c1
   cases h
   show LK env [] 0 [0, 1, 2, 8, 9, 10] Ji7 (some (Jq _ _ _ _)) = some (Kj _ _ _ _)
   simp only [Jq, Kj]
   rw [J4]
   simp (maxSteps := 4000000) [c1]) bigN s r h
def Kh (p0 : (FS X9)) (p1 : Int) : Option (Int × Bool) := (match Ku (J6 p0 p1 (flen p0)) bigN (0, (flen p0)) with
 | none => none
 | some v10 => (match gOpt (ilt v10 (flen p0)) (fget p0 v10) with
 | none => none
 | some v14 => (match gOpt (ilt v10 (flen p0)) (zf (v14.getD (⟨0, (FS.nil : (FS Kg))⟩ : X9)) p1) with
 | none => none
 | some v17 => some (v10, (band (ilt v10 (flen p0)) (ieq (v17.getD 0) 0))))))
theorem ji {p0 : (FS X9)} {p1 : Int} {r : (Int × Bool)} (h : Kh p0 p1 = some r) : FC env 93 [encF Jl p0, .int .i64 p1, .fn 94 []] none = some (.tup [.int .i64 r.1, .bool r.2], fun _ => none) := by
 unfold Kh at h
 cases h9 : Ku (J6 p0 p1 (flen p0)) bigN (0, (flen p0)) with
 | none => (rw [h9] at h; cases h)
 | some v10 =>
  simp only [h9] at h
  have f11 := Z0 h9
  simp only [Jq, Kj, J8] at f11
  try simp only [Jj, Ji, Jm, Jw, Jt, Ju, Jv, Js] at f11
  cases h14 : gOpt (ilt v10 (flen p0)) (fget p0 v10) with
  | none => (rw [h14] at h; cases h)
  | some v15 =>
   simp only [h14] at h
   have f13 := fun (q0 : (ilt v10 (flen p0)) = true) => K5 (e := Jl) (Qk (⟨0, (FS.nil : (FS Kg))⟩ : X9) h14 q0)
   cases h17 : gOpt (ilt v10 (flen p0)) (zf (v15.getD (⟨0, (FS.nil : (FS Kg))⟩ : X9)) p1) with
   | none => (rw [h17] at h; cases h)
   | some v18 =>
    simp only [h17] at h
    have f16 := fun (q0 : (ilt v10 (flen p0)) = true) => Jef (Qk 0 h17 q0)
    cases h
    refine J9 (lf := lf93) rfl rfl rfl ?_
    simp only [lf93, lc93]
    rcases tof (ilt v10 (flen p0)) with a19 | a19
    · try simp only [a19] at f11
      simp (maxSteps := 4000000) [a19, f11, f13, f16, jk, tupS, Z5, Zc, Z9, Zf, Z2]
    · try simp only [a19] at f11
      simp (maxSteps := 4000000) [a19, f11, f13, f16, jk, tupS, Z5, Zc, Z9, Zf, Z2]

/-! region.row -/
attribute [simp] c90_0 c90_1 c90_2 c90_3 c90_4
def Jbh (p0 : Jk) (p1 : Int) : Option (FS Kg) := (match Kh p0.Rows p1 with
 | none => none
 | some v3 => (if (bnot v3.2) = true then some (FS.nil : (FS Kg))
 else (match fget p0.Rows v3.1 with
 | none => none
 | some v7 => some v7.Runs)))
theorem Jkn {p0 : Jk} {p1 : Int} {r : (FS Kg)} (h : Jbh p0 p1 = some r) : FC env 90 [.agg [encF Jl p0.Rows], .int .i64 p1] none = some (encF Yc r, fun _ => none) := by
 unfold Jbh at h
 cases h2 : Kh p0.Rows p1 with
 | none => (rw [h2] at h; cases h)
 | some v3 =>
  simp only [h2] at h
  have f1 := ji h2
  by_cases c4 : (bnot v3.2) = true
  · rw [if_pos c4] at h
    cases h
    refine J9 (lf := lf90) rfl rfl rfl ?_
    simp only [lf90, lc90]
    rcases tof v3.2 with a5 | a5
    · simp [a5] at c4
    · simp (maxSteps := 4000000) [a5, f1]
  · rw [if_neg c4] at h
    rw [Bool.not_eq_true] at c4
    cases h7 : fget p0.Rows v3.1 with
    | none => (rw [h7] at h; cases h)
    | some v8 =>
     simp only [h7] at h
     have f6 := K5 (e := Jl) h7
     cases h
     refine J9 (lf := lf90) rfl rfl rfl ?_
     simp only [lf90, lc90]
     rcases tof v3.2 with a9 | a9
     · simp (maxSteps := 4000000) [a9, f1, f6]
     · simp [a9] at c4

/-! runs.Contains$1 -/
attribute [simp] c92_0 c92_1
def Zv (p0 : Kg) (p1 : Int) : Bool := (band (ile p0.From p1) (ilt p1 p0.To))
def Jsp (p0 : Kg) (p1 : Int) : Option Bool := some (Zv p0 p1)
theorem Jge (p0 : Kg) (p1 : Int) : FC env 92 [.agg [.int .i64 p0.From, .int .i64 p0.To], .rptr [.int .i64 p1]] none = some (.bool (Zv p0 p1), fun _ => none) := by
 unfold Zv
 refine J9 (lf := lf92) rfl rfl rfl ?_
 simp only [lf92, lc92]
 rcases tof (ile p0.From p1) with a1 | a1
 · simp (maxSteps := 4000000) [a1]
 · simp (maxSteps := 4000000) [a1]
end Go.Proofs.Ytemehoioeoohmaa
