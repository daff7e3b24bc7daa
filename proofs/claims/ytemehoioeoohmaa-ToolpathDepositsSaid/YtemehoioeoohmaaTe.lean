/- Typed functions of this seat, each with the proof that the code computes it; by program (tg3.py). -/
import Derived.Test.YtemehoioeoohmaaCode
import Derived.Test.YtemehoioeoohmaaVu
import Derived.KernelRfl
namespace Go.Proofs.Ytemehoioeoohmaa
open Go Go.Vv Go.Proofs
set_option linter.unusedSimpArgs false
set_option linter.unusedVariables false
set_option maxRecDepth 100000
set_option maxHeartbeats 4000000
variable (Γ : Env) (ps : List Nat) (σ : St)
def Xc (x : Int) : List AV := [.int .i64 x]
instance : EncOK 1 Xc := ⟨fun _ => rfl, fun _ => by simp [Xc]⟩
attribute [simp] Xc
structure Ja where
  X : Int
  Y : Int
def Je (x : Ja) : List AV := [.int .i64 x.X, .int .i64 x.Y]
instance : EncOK 2 Je := ⟨fun _ => rfl, fun _ => by simp [Je]⟩
attribute [simp] Je
def J5x (x : Bool) : List AV := [.bool x]
instance : EncOK 1 J5x := ⟨fun _ => rfl, fun _ => by simp [J5x]⟩
attribute [simp] J5x
def Jh0 (x : (FS Ja)) : List AV := [encF Je x]
instance : EncOK 1 Jh0 := ⟨fun _ => rfl, fun _ => by simp [Jh0]⟩
attribute [simp] Jh0
structure Jd where
  Role : Int
  Closed : Bool
  Cells : (FS Ja)
def Jh (x : Jd) : List AV := [.int .i64 x.Role, .bool x.Closed, encF Je x.Cells]
instance : EncOK 3 Jh := ⟨fun _ => rfl, fun _ => by simp [Jh]⟩
attribute [simp] Jh
structure Jf where
  From : Int
  To : Int
def J9 (x : Jf) : List AV := [.int .i64 x.From, .int .i64 x.To]
instance : EncOK 2 J9 := ⟨fun _ => rfl, fun _ => by simp [J9]⟩
attribute [simp] J9
def Jij (x : (FS Jf)) : List AV := [encF J9 x]
instance : EncOK 1 Jij := ⟨fun _ => rfl, fun _ => by simp [Jij]⟩
attribute [simp] Jij
structure Jm where
  Y : Int
  Runs : (FS Jf)
def Jg (x : Jm) : List AV := [.int .i64 x.Y, encF J9 x.Runs]
instance : EncOK 2 Jg := ⟨fun _ => rfl, fun _ => by simp [Jg]⟩
attribute [simp] Jg
def Jii (x : (FS Jm)) : List AV := [encF Jg x]
instance : EncOK 1 Jii := ⟨fun _ => rfl, fun _ => by simp [Jii]⟩
attribute [simp] Jii
structure Ji where
  Rows : (FS Jm)
def Jik (x : Ji) : List AV := [encF Jg x.Rows]
instance : EncOK 1 Jik := ⟨fun _ => rfl, fun _ => by simp [Jik]⟩
attribute [simp] Jik
def Jgq (x : (FS Jd)) : List AV := [encF Jh x]
instance : EncOK 1 Jgq := ⟨fun _ => rfl, fun _ => by simp [Jgq]⟩
attribute [simp] Jgq
structure Qe where
  Tracks : (FS Jd)
  Region : Ji
  Index : Int
  From : Ja
def Jde (x : Qe) : List AV := [encF Jh x.Tracks, encF Jg x.Region.Rows, .int .i64 x.Index, .int .i64 x.From.X, .int .i64 x.From.Y]
instance : EncOK 5 Jde := ⟨fun _ => rfl, fun _ => by simp [Jde]⟩
attribute [simp] Jde
structure J6 where
  Pitch : Int
  Height : Int
  Walls : Int
  Top : Int
  Bottom : Int
  Pattern : Int
  Spacing : Int
  Support : Bool
  Reach : Int
  Gap : Int
  Brim : Int
  Skirt : Int
  Drop : Int
  Feed : Int
  Travel : Int
  Retract : Int
  MinTime : Int
  MinFeed : Int
  Nozzle : Int
  Bed : Int
def Jeg (x : J6) : List AV := [.int .i64 x.Pitch, .int .i64 x.Height, .int .i64 x.Walls, .int .i64 x.Top, .int .i64 x.Bottom, .int .i64 x.Pattern, .int .i64 x.Spacing, .bool x.Support, .int .i64 x.Reach, .int .i64 x.Gap, .int .i64 x.Brim, .int .i64 x.Skirt, .int .i64 x.Drop, .int .i64 x.Feed, .int .i64 x.Travel, .int .i64 x.Retract, .int .i64 x.MinTime, .int .i64 x.MinFeed, .int .i64 x.Nozzle, .int .i64 x.Bed]
instance : EncOK 20 Jeg := ⟨fun _ => rfl, fun _ => by simp [Jeg]⟩
attribute [simp] Jeg
structure Jhr where
  grid : Bool
  solid : Bool
  pattern : Bool
  around : Bool
  filament : Bool
  speeds : Bool
  heat : Bool
def Jhx (x : Jhr) : List AV := [.bool x.grid, .bool x.solid, .bool x.pattern, .bool x.around, .bool x.filament, .bool x.speeds, .bool x.heat]
instance : EncOK 7 Jhx := ⟨fun _ => rfl, fun _ => by simp [Jhx]⟩
attribute [simp] Jhx
structure Kj where
  Kind : Int
  Role : Int
  Layer : Int
  Z : Int
  Speed : Int
  Cells : (FS Ja)
def J2 (x : Kj) : List AV := [.int .i64 x.Kind, .int .i64 x.Role, .int .i64 x.Layer, .int .i64 x.Z, .int .i64 x.Speed, encF Je x.Cells]
instance : EncOK 6 J2 := ⟨fun _ => rfl, fun _ => by simp [J2]⟩
attribute [simp] J2
def Jjt (x : (FS Kj)) : List AV := [encF J2 x]
instance : EncOK 1 Jjt := ⟨fun _ => rfl, fun _ => by simp [Jjt]⟩
attribute [simp] Jjt
structure Kk where
  ops : (FS Kj)
def Jfl (x : Kk) : List AV := [encF J2 x.ops]
instance : EncOK 1 Jfl := ⟨fun _ => rfl, fun _ => by simp [Jfl]⟩
attribute [simp] Jfl
structure Jo where
  list : Kk
  r : Ji
  s : J6
  nozzle : Ja
def Jdz (x : Jo) : List AV := [encF J2 x.list.ops, encF Jg x.r.Rows, .int .i64 x.s.Pitch, .int .i64 x.s.Height, .int .i64 x.s.Walls, .int .i64 x.s.Top, .int .i64 x.s.Bottom, .int .i64 x.s.Pattern, .int .i64 x.s.Spacing, .bool x.s.Support, .int .i64 x.s.Reach, .int .i64 x.s.Gap, .int .i64 x.s.Brim, .int .i64 x.s.Skirt, .int .i64 x.s.Drop, .int .i64 x.s.Feed, .int .i64 x.s.Travel, .int .i64 x.s.Retract, .int .i64 x.s.MinTime, .int .i64 x.s.MinFeed, .int .i64 x.s.Nozzle, .int .i64 x.s.Bed, .int .i64 x.nozzle.X, .int .i64 x.nozzle.Y]
instance : EncOK 24 Jdz := ⟨fun _ => rfl, fun _ => by simp [Jdz]⟩
attribute [simp] Jdz
structure A2 (α : Type) where
  a0 : α
  a1 : α
def A2.toL {α : Type} (x : A2 α) : List α := [x.a0, x.a1]
def A2.get {α : Type} (x : A2 α) (i : Int) : α := if i = 0 then x.a0 else x.a1
def A2.set {α : Type} (x : A2 α) (i : Int) (v : α) : A2 α := if i = 0 then { x with a0 := v } else { x with a1 := v }
section
variable {α : Type} {w : Nat} {e : α → List AV} [hE : EncOK w e]
include hE
end
def J7 (x : (A2 Ja)) : List AV := [.int .i64 x.a0.X, .int .i64 x.a0.Y, .int .i64 x.a1.X, .int .i64 x.a1.Y]
instance : EncOK 4 J7 := ⟨fun _ => rfl, fun _ => by simp [J7]⟩
attribute [simp] J7
def Jez (x : (FS (A2 Ja))) : List AV := [encF J7 x]
instance : EncOK 1 Jez := ⟨fun _ => rfl, fun _ => by simp [Jez]⟩
attribute [simp] Jez
def Jpl (x : (FS Int)) : List AV := [encF Xc x]
instance : EncOK 1 Jpl := ⟨fun _ => rfl, fun _ => by simp [Jpl]⟩
attribute [simp] Jpl
structure Xb where
  from_ : Ja
  a : (FS (A2 Ja))
  b : (FS (A2 Ja))
  ahead : (FS Int)
  aback : (FS Int)
def Jih (x : Xb) : List AV := [.int .i64 x.from_.X, .int .i64 x.from_.Y, encF J7 x.a, encF J7 x.b, encF Xc x.ahead, encF Xc x.aback]
instance : EncOK 6 Jih := ⟨fun _ => rfl, fun _ => by simp [Jih]⟩
attribute [simp] Jih
def Za (x : Ja) : AV := .agg [.int .i64 x.X, .int .i64 x.Y]
def K0 (a b : Ja) : Bool := (band (ieq a.X b.X) (band (ieq a.Y b.Y) true))
instance : KeyOK true [false, false] Za K0 := ⟨fun a b => by simp [Za, K0], fun a => by simp [Za, AV.noNm, Jrn]⟩
def Zv (x : Ja) : AV := .agg [.int .i64 x.X, .int .i64 x.Y]
instance : ValOK Zv := ⟨fun v => by simp [Zv, AV.noNm, Jrn]⟩
structure A4 (α : Type) where
  a0 : α
  a1 : α
  a2 : α
  a3 : α
def A4.toL {α : Type} (x : A4 α) : List α := [x.a0, x.a1, x.a2, x.a3]
def A4.get {α : Type} (x : A4 α) (i : Int) : α := if i = 0 then x.a0 else if i = 1 then x.a1 else if i = 2 then x.a2 else x.a3
def A4.set {α : Type} (x : A4 α) (i : Int) (v : α) : A4 α := if i = 0 then { x with a0 := v } else if i = 1 then { x with a1 := v } else if i = 2 then { x with a2 := v } else { x with a3 := v }
section
variable {α : Type} {w : Nat} {e : α → List AV} [hE : EncOK w e]
include hE
theorem pack_A4 (x : A4 α) {i : Int} (hi : inB i 4 = true) (P Q : List AV) (hw : 0 < w) (ag : Bool) : pack ag (P ++ (Jp e x.toL ++ Q)) (aOff P.length w i) w = pack ag (e (x.get i)) 0 w :=
  pack_mid (e := e) (l := x.toL) (by
    have hc : i = 0 ∨ i = 1 ∨ i = 2 ∨ i = 3 := by rw [Jsc] at hi; omega
    rcases hc with rfl | rfl | rfl | rfl <;> rfl) P Q hw ag
end
attribute [simp] c14_0 c14_1 c14_2 c14_3 c14_4 c14_5 c14_6 c14_8
theorem c14_L0_u : EC Γ ps 0 J3q σ = EC Γ ps 0 (.seq (.seq (.reg false c14_2) (.cond (.t 8) .skip (.seq (.trim []) (.exit 0)))) (.seq (.blk 1 (.seq (.reg false c14_3) (.seq (.reg false c14_4) (.cond (.t 52) (.seq (.reg false c14_5) (.seq (.trim [2]) .ret)) .skip)))) (.reg false c14_6))) σ := rfl
attribute [simp ↓] c14_L0_u
def je (k0 : (FS Ja)) (s : Int) : Option (LR Int (Bool ⊕ Unit)) := match s with
 | s0 => (if (ilt s0 (flen k0)) = true then (J3 (fget k0 s0) fun v4 => (if (bor (bor (bor (band (igt v4.X 60) (ilt v4.X 4096)) (band (igt v4.Y 60) (ilt v4.Y 4096))) (band (ilt v4.X (-60)) (ige v4.X (-4096)))) (band (ilt v4.Y (-60)) (ige v4.Y (-4096)))) = true then some (.dn (.inl false))
 else some (.nx (iadd .i64 s0 1))))
 else some (.dn (.inr ())))
def Xg (k0 : (FS Ja)) (s : Int) : St := match s with
 | s0 => ⟨fr [(0, encF Je k0), (3, .int .i64 s0)], hl []⟩
def Yk (k0 : (FS Ja)) (x : (Bool ⊕ Unit)) : LE × St := match x with
 | .inl x => (.ret, ⟨fr [(2, .bool x)], hl []⟩)
 | .inr x => (.exit 0, ⟨fr [], hl []⟩)
theorem Jf8 {k0} {s} {r} (h : Ky (je k0) bigN s = some r) : LK env [] 0 [0, 3] J3q (some (Xg k0 s)) = some (Yk k0 r) := Kt (st := Xg k0) (out := Yk k0) (by
 clear h s r
 rintro s0 x h
 simp only [je] at h
 rcases ifC h with ⟨c1, h⟩ | ⟨c1, h⟩
 ·obtain ⟨v4, h3, h⟩ := oS h
  have f2 := Kc (e := Je) h3
  rcases ifC h with ⟨c5, h⟩ | ⟨c5, h⟩
  ·cases h
   simp only [Xg, Yk]
   rw [Jn]
   rcases tof (igt v4.X 60) with a6 | a6
   ·rcases tof (ilt v4.X 4096) with a7 | a7
    ·simp [*]
    ·rcases tof (igt v4.Y 60) with a8 | a8
     ·rcases tof (ilt v4.Y 4096) with a9 | a9
      ·simp [*]
      ·rcases tof (ilt v4.X (-60)) with a10 | a10
       ·rcases tof (ige v4.X (-4096)) with a11 | a11
        ·simp [*]
        ·rcases tof (ilt v4.Y (-60)) with a12 | a12
         ·rcases tof (ige v4.Y (-4096)) with a13 | a13
          ·simp [*]
          ·simp [c1, a6, a7, a8, a9, a10, a11, a12, a13] at c5
         ·simp [c1, a6, a7, a8, a9, a10, a11, a12] at c5
       ·rcases tof (ilt v4.Y (-60)) with a14 | a14
        ·rcases tof (ige v4.Y (-4096)) with a15 | a15
         ·simp [*]
         ·simp [c1, a6, a7, a8, a9, a10, a14, a15] at c5
        ·simp [c1, a6, a7, a8, a9, a10, a14] at c5
     ·rcases tof (ilt v4.X (-60)) with a16 | a16
      ·rcases tof (ige v4.X (-4096)) with a17 | a17
       ·simp [*]
       ·rcases tof (ilt v4.Y (-60)) with a18 | a18
        ·rcases tof (ige v4.Y (-4096)) with a19 | a19
         ·simp [*]
         ·simp [c1, a6, a7, a8, a16, a17, a18, a19] at c5
        ·simp [c1, a6, a7, a8, a16, a17, a18] at c5
      ·rcases tof (ilt v4.Y (-60)) with a20 | a20
       ·rcases tof (ige v4.Y (-4096)) with a21 | a21
        ·simp [*]
        ·simp [c1, a6, a7, a8, a16, a20, a21] at c5
       ·simp [c1, a6, a7, a8, a16, a20] at c5
   ·rcases tof (igt v4.Y 60) with a22 | a22
    ·rcases tof (ilt v4.Y 4096) with a23 | a23
     ·simp [*]
     ·rcases tof (ilt v4.X (-60)) with a24 | a24
      ·rcases tof (ige v4.X (-4096)) with a25 | a25
       ·simp [*]
       ·rcases tof (ilt v4.Y (-60)) with a26 | a26
        ·rcases tof (ige v4.Y (-4096)) with a27 | a27
         ·simp [*]
         ·simp [c1, a6, a22, a23, a24, a25, a26, a27] at c5
        ·simp [c1, a6, a22, a23, a24, a25, a26] at c5
      ·rcases tof (ilt v4.Y (-60)) with a28 | a28
       ·rcases tof (ige v4.Y (-4096)) with a29 | a29
        ·simp [*]
        ·simp [c1, a6, a22, a23, a24, a28, a29] at c5
       ·simp [c1, a6, a22, a23, a24, a28] at c5
    ·rcases tof (ilt v4.X (-60)) with a30 | a30
     ·rcases tof (ige v4.X (-4096)) with a31 | a31
      ·simp [*]
      ·rcases tof (ilt v4.Y (-60)) with a32 | a32
       ·rcases tof (ige v4.Y (-4096)) with a33 | a33
        ·simp [*]
        ·simp [c1, a6, a22, a30, a31, a32, a33] at c5
       ·simp [c1, a6, a22, a30, a31, a32] at c5
     ·rcases tof (ilt v4.Y (-60)) with a34 | a34
      ·rcases tof (ige v4.Y (-4096)) with a35 | a35
       ·simp [*]
       ·simp [c1, a6, a22, a30, a34, a35] at c5
      ·simp [c1, a6, a22, a30, a34] at c5
  ·cases h
   simp only [Xg]
   rw [Jn]
   rcases tof (igt v4.X 60) with a36 | a36
   ·rcases tof (ilt v4.X 4096) with a37 | a37
    ·simp [c1, a36, a37] at c5
    ·rcases tof (igt v4.Y 60) with a38 | a38
     ·rcases tof (ilt v4.Y 4096) with a39 | a39
      ·simp [c1, a36, a37, a38, a39] at c5
      ·rcases tof (ilt v4.X (-60)) with a40 | a40
       ·rcases tof (ige v4.X (-4096)) with a41 | a41
        ·simp [c1, a36, a37, a38, a39, a40, a41] at c5
        ·rcases tof (ilt v4.Y (-60)) with a42 | a42
         ·rcases tof (ige v4.Y (-4096)) with a43 | a43
          ·simp [c1, a36, a37, a38, a39, a40, a41, a42, a43] at c5
          ·simp [*]
         ·simp [*]
       ·rcases tof (ilt v4.Y (-60)) with a44 | a44
        ·rcases tof (ige v4.Y (-4096)) with a45 | a45
         ·simp [c1, a36, a37, a38, a39, a40, a44, a45] at c5
         ·simp [*]
        ·simp [*]
     ·rcases tof (ilt v4.X (-60)) with a46 | a46
      ·rcases tof (ige v4.X (-4096)) with a47 | a47
       ·simp [c1, a36, a37, a38, a46, a47] at c5
       ·rcases tof (ilt v4.Y (-60)) with a48 | a48
        ·rcases tof (ige v4.Y (-4096)) with a49 | a49
         ·simp [c1, a36, a37, a38, a46, a47, a48, a49] at c5
         ·simp [*]
        ·simp [*]
      ·rcases tof (ilt v4.Y (-60)) with a50 | a50
       ·rcases tof (ige v4.Y (-4096)) with a51 | a51
        ·simp [c1, a36, a37, a38, a46, a50, a51] at c5
        ·simp [*]
       ·simp [*]
   ·rcases tof (igt v4.Y 60) with a52 | a52
    ·rcases tof (ilt v4.Y 4096) with a53 | a53
     ·simp [c1, a36, a52, a53] at c5
     ·rcases tof (ilt v4.X (-60)) with a54 | a54
      ·rcases tof (ige v4.X (-4096)) with a55 | a55
       ·simp [c1, a36, a52, a53, a54, a55] at c5
       ·rcases tof (ilt v4.Y (-60)) with a56 | a56
        ·rcases tof (ige v4.Y (-4096)) with a57 | a57
         ·simp [c1, a36, a52, a53, a54, a55, a56, a57] at c5
         ·simp [*]
        ·simp [*]
      ·rcases tof (ilt v4.Y (-60)) with a58 | a58
       ·rcases tof (ige v4.Y (-4096)) with a59 | a59
        ·simp [c1, a36, a52, a53, a54, a58, a59] at c5
        ·simp [*]
       ·simp [*]
    ·rcases tof (ilt v4.X (-60)) with a60 | a60
     ·rcases tof (ige v4.X (-4096)) with a61 | a61
      ·simp [c1, a36, a52, a60, a61] at c5
      ·rcases tof (ilt v4.Y (-60)) with a62 | a62
       ·rcases tof (ige v4.Y (-4096)) with a63 | a63
        ·simp [c1, a36, a52, a60, a61, a62, a63] at c5
        ·simp [*]
       ·simp [*]
     ·rcases tof (ilt v4.Y (-60)) with a64 | a64
      ·rcases tof (ige v4.Y (-4096)) with a65 | a65
       ·simp [c1, a36, a52, a60, a64, a65] at c5
       ·simp [*]
      ·simp [*]
 ·cases h
  simp only [Xg, Yk]
  rw [Jn]
  simp [*]) bigN s r h
def z2 (p0 : (FS Ja)) : Option Bool := (J3 (Ky (je p0) bigN 0) fun v7 => (match v7 with
 | .inl v7x => some v7x
 | .inr v7x => some true))
theorem Jd0 {p0} {r} (h : z2 p0 = some r) : FC env 14 [encF Je p0] none = some (.bool r, fun _ => none) := by
 unfold z2 at h
 obtain ⟨v67, h66, h⟩ := oS h
 have f68 := Jf8 h66
 cases v67 with
 | inl v67x =>
  try simp only at h
  simp only [Xg, Yk, J5] at f68
  try simp only [Jj, Jk, Jq, Jv, Jt, Jx, Jw, Ju] at f68
  cases h
  refine J4 (lf := lf14) rfl rfl rfl ?_
  simp only [lf14, lc14]
  simp [*]
 | inr v67x =>
  try simp only at h
  simp only [Xg, Yk, J5] at f68
  try simp only [Jj, Jk, Jq, Jv, Jt, Jx, Jw, Ju] at f68
  cases h
  refine J4 (lf := lf14) rfl rfl rfl ?_
  simp only [lf14, lc14]
  simp [*]
attribute [simp] c50_0 c50_1 c50_2 c50_3 c50_4 c50_5 c50_7
theorem c50_L0_u : EC Γ ps 0 J4j σ = EC Γ ps 0 (.seq (.seq (.reg false c50_2) (.cond (.t 7) .skip (.seq (.trim [0]) (.exit 0)))) (.seq (.blk 1 (.seq (.reg true c50_3) (.cond (.t 54) (.seq (.reg false c50_4) (.seq (.trim [2]) .ret)) .skip))) (.reg false c50_5))) σ := rfl
attribute [simp ↓] c50_L0_u
def Xl (k0 : (FS Jf)) (s : Int) : Option (LR Int (Bool ⊕ Unit)) := match s with
 | s0 => (if (ilt s0 (flen k0)) = true then (J3 (fget k0 s0) fun v4 => (J3 (gOpt (band (bnot (bor (bor (ilt v4.From (-4096)) (ige v4.From v4.To)) (igt v4.To 4096))) (igt s0 0)) (fget k0 (isub .i64 s0 1))) fun v11 => (if (bor (bor (bor (ilt v4.From (-4096)) (ige v4.From v4.To)) (igt v4.To 4096)) (band (igt s0 0) (ile v4.From (((v11.getD (⟨0, 0⟩ : Jf))).To)))) = true then some (.dn (.inl false))
 else some (.nx (iadd .i64 s0 1)))))
 else some (.dn (.inr ())))
def Xf (k0 : (FS Jf)) (s : Int) : St := match s with
 | s0 => ⟨fr [(0, encF J9 k0), (3, .int .i64 s0)], hl []⟩
def X9 (k0 : (FS Jf)) (x : (Bool ⊕ Unit)) : LE × St := match x with
 | .inl x => (.ret, ⟨fr [(2, .bool x)], hl []⟩)
 | .inr x => (.exit 0, ⟨fr [(0, encF J9 k0)], hl []⟩)
theorem Jga {k0} {s} {r} (h : Ky (Xl k0) bigN s = some r) : LK env [] 0 [0, 3] J4j (some (Xf k0 s)) = some (X9 k0 r) := Kt (st := Xf k0) (out := X9 k0) (by
 clear h s r
 rintro s0 x h
 simp only [Xl] at h
 rcases ifC h with ⟨c1, h⟩ | ⟨c1, h⟩
 ·obtain ⟨v4, h3, h⟩ := oS h
  have f2 := Kc (e := J9) h3
  obtain ⟨v11, h10, h⟩ := oS h
  have f9 := fun (q0 : (bor (bor (ilt v4.From (-4096)) (ige v4.From v4.To)) (igt v4.To 4096)) = false) (q1 : (igt s0 0) = true) => Kc (e := J9) (Kb (⟨0, 0⟩ : Jf) h10 (z6 (Qo q0) q1))
  rcases ifC h with ⟨c12, h⟩ | ⟨c12, h⟩
  ·cases h
   simp only [Xf, X9]
   rw [Jn]
   rcases tof (ilt v4.From (-4096)) with a13 | a13
   ·simp [*]
   ·rcases tof (ige v4.From v4.To) with a14 | a14
    ·simp [*]
    ·rcases tof (igt v4.To 4096) with a15 | a15
     ·simp [*]
     ·rcases tof (igt s0 0) with a16 | a16
      ·rcases tof (ile v4.From (((v11.getD (⟨0, 0⟩ : Jf))).To)) with a17 | a17
       ·simp [*]
       ·simp [c1, a13, a14, a15, a16, a17] at c12
      ·simp [c1, a13, a14, a15, a16] at c12
  ·cases h
   simp only [Xf]
   rw [Jn]
   rcases tof (ilt v4.From (-4096)) with a18 | a18
   ·simp [c1, a18] at c12
   ·rcases tof (ige v4.From v4.To) with a19 | a19
    ·simp [c1, a18, a19] at c12
    ·rcases tof (igt v4.To 4096) with a20 | a20
     ·simp [c1, a18, a19, a20] at c12
     ·rcases tof (igt s0 0) with a21 | a21
      ·rcases tof (ile v4.From (((v11.getD (⟨0, 0⟩ : Jf))).To)) with a22 | a22
       ·simp [c1, a18, a19, a20, a21, a22] at c12
       ·simp [*]
      ·simp [*]
 ·cases h
  simp only [Xf, X9]
  rw [Jn]
  simp [*]) bigN s r h
def z1 (p0 : (FS Jf)) : Option Bool := (J3 (Ky (Xl p0) bigN 0) fun v14 => (match v14 with
 | .inl v14x => some v14x
 | .inr v14x => some (igt (flen p0) 0)))
theorem Jhw {p0} {r} (h : z1 p0 = some r) : FC env 50 [encF J9 p0] none = some (.bool r, fun _ => none) := by
 unfold z1 at h
 obtain ⟨v24, h23, h⟩ := oS h
 have f25 := Jga h23
 cases v24 with
 | inl v24x =>
  try simp only at h
  simp only [Xf, X9, J5] at f25
  try simp only [Jj, Jk, Jq, Jv, Jt, Jx, Jw, Ju] at f25
  cases h
  refine J4 (lf := lf50) rfl rfl rfl ?_
  simp only [lf50, lc50]
  simp [*]
 | inr v24x =>
  try simp only at h
  simp only [Xf, X9, J5] at f25
  try simp only [Jj, Jk, Jq, Jv, Jt, Jx, Jw, Ju] at f25
  cases h
  refine J4 (lf := lf50) rfl rfl rfl ?_
  simp only [lf50, lc50]
  simp [*]
attribute [simp] c30_0 c30_1 c30_2 c30_3 c30_4 c30_5 c30_6 c30_8
theorem c30_L0_u : EC Γ ps 0 J1k σ = EC Γ ps 0 (.seq (.seq (.reg false c30_2) (.cond (.t 9) .skip (.seq (.trim []) (.exit 0)))) (.seq (.blk 1 (.seq (.reg false c30_3) (.seq (.reg false c30_4) (.cond (.t 48) (.seq (.reg false c30_5) (.seq (.trim [2]) .ret)) .skip)))) (.reg false c30_6))) σ := rfl
attribute [simp ↓] c30_L0_u
def Qq (k0 : Ji) (s : Int) : Option (LR Int (Bool ⊕ Unit)) := match s with
 | s0 => (if (ilt s0 (flen k0.Rows)) = true then (J3 (fget k0.Rows s0) fun v4 => (J3 (gOpt (band (bnot (bor (ilt v4.Y (-4096)) (ige v4.Y 4096))) (igt s0 0)) (fget k0.Rows (isub .i64 s0 1))) fun v7 => (J3 (gOpt (bnot (bor (bor (ilt v4.Y (-4096)) (ige v4.Y 4096)) (band (igt s0 0) (ile v4.Y (((v7.getD (⟨0, (FS.nil : (FS Jf))⟩ : Jm))).Y))))) (z1 v4.Runs)) fun v11 => (if (bor (bor (bor (ilt v4.Y (-4096)) (ige v4.Y 4096)) (band (igt s0 0) (ile v4.Y (((v7.getD (⟨0, (FS.nil : (FS Jf))⟩ : Jm))).Y)))) (bnot (v11.getD false))) = true then some (.dn (.inl false))
 else some (.nx (iadd .i64 s0 1))))))
 else some (.dn (.inr ())))
def Q2 (k0 : Ji) (s : Int) : St := match s with
 | s0 => ⟨fr [(1, .ptr 1 0 0), (3, .int .i64 s0)], hl [(1, .box 0 [encF Jg k0.Rows])]⟩
def Xv (k0 : Ji) (x : (Bool ⊕ Unit)) : LE × St := match x with
 | .inl x => (.ret, ⟨fr [(2, .bool x)], hl []⟩)
 | .inr x => (.exit 0, ⟨fr [], hl []⟩)
theorem Jf6 {k0} {s} {r} (h : Ky (Qq k0) bigN s = some r) : LK env [] 0 [1, 3] J1k (some (Q2 k0 s)) = some (Xv k0 r) := Kt (st := Q2 k0) (out := Xv k0) (by
 clear h s r
 rintro s0 x h
 simp only [Qq] at h
 rcases ifC h with ⟨c1, h⟩ | ⟨c1, h⟩
 ·obtain ⟨v4, h3, h⟩ := oS h
  have f2 := Kc (e := Jg) h3
  obtain ⟨v7, h6, h⟩ := oS h
  have f5 := fun (q0 : (bor (ilt v4.Y (-4096)) (ige v4.Y 4096)) = false) (q1 : (igt s0 0) = true) => Kc (e := Jg) (Kb (⟨0, (FS.nil : (FS Jf))⟩ : Jm) h6 (z6 (Qo q0) q1))
  obtain ⟨v11, h10, h⟩ := oS h
  have f9 := fun (q0 : (bor (bor (ilt v4.Y (-4096)) (ige v4.Y 4096)) (band (igt s0 0) (ile v4.Y (((v7.getD (⟨0, (FS.nil : (FS Jf))⟩ : Jm))).Y)))) = false) => Jhw (Kb false h10 (Qo q0))
  rcases ifC h with ⟨c12, h⟩ | ⟨c12, h⟩
  ·cases h
   simp only [Q2, Xv]
   rw [Jn]
   rcases tof (ilt v4.Y (-4096)) with a13 | a13
   ·simp [*]
   ·rcases tof (ige v4.Y 4096) with a14 | a14
    ·simp [*]
    ·rcases tof (igt s0 0) with a15 | a15
     ·rcases tof (ile v4.Y (((v7.getD (⟨0, (FS.nil : (FS Jf))⟩ : Jm))).Y)) with a16 | a16
      ·simp [*]
      ·rcases tof (v11.getD false) with a17 | a17
       ·simp [c1, a13, a14, a15, a16, a17] at c12
       ·simp [*]
     ·rcases tof (v11.getD false) with a18 | a18
      ·simp [c1, a13, a14, a15, a18] at c12
      ·simp [*]
  ·cases h
   simp only [Q2]
   rw [Jn]
   rcases tof (ilt v4.Y (-4096)) with a19 | a19
   ·simp [c1, a19] at c12
   ·rcases tof (ige v4.Y 4096) with a20 | a20
    ·simp [c1, a19, a20] at c12
    ·rcases tof (igt s0 0) with a21 | a21
     ·rcases tof (ile v4.Y (((v7.getD (⟨0, (FS.nil : (FS Jf))⟩ : Jm))).Y)) with a22 | a22
      ·simp [c1, a19, a20, a21, a22] at c12
      ·rcases tof (v11.getD false) with a23 | a23
       ·simp [*]
       ·simp [c1, a19, a20, a21, a22, a23] at c12
     ·rcases tof (v11.getD false) with a24 | a24
      ·simp [*]
      ·simp [c1, a19, a20, a21, a24] at c12
 ·cases h
  simp only [Q2, Xv]
  rw [Jn]
  simp [*]) bigN s r h
def K1 (p0 : Ji) : Option Bool := (J3 (Ky (Qq p0) bigN 0) fun v14 => (match v14 with
 | .inl v14x => some v14x
 | .inr v14x => some true))
theorem zg {p0} {r} (h : K1 p0 = some r) : FC env 30 [.agg [encF Jg p0.Rows]] none = some (.bool r, fun _ => none) := by
 unfold K1 at h
 obtain ⟨v26, h25, h⟩ := oS h
 have f27 := Jf6 h25
 cases v26 with
 | inl v26x =>
  try simp only at h
  simp only [Q2, Xv, J5] at f27
  try simp only [Jj, Jk, Jq, Jv, Jt, Jx, Jw, Ju] at f27
  cases h
  refine J4 (lf := lf30) rfl rfl rfl ?_
  simp only [lf30, lc30]
  simp [*]
 | inr v26x =>
  try simp only at h
  simp only [Q2, Xv, J5] at f27
  try simp only [Jj, Jk, Jq, Jv, Jt, Jx, Jw, Ju] at f27
  cases h
  refine J4 (lf := lf30) rfl rfl rfl ?_
  simp only [lf30, lc30]
  simp [*]
attribute [simp] c15_0 c15_1 c15_2 c15_3 c15_4 c15_5 c15_6 c15_7 c15_8 c15_9 J17 c15_13
theorem c15_L0_u : EC Γ ps 0 Jue σ = EC Γ ps 0 (.seq (.seq (.reg false c15_7) (.cond (.t 25) .skip (.seq (.trim [1, 3, 4]) (.exit 2)))) (.seq (.blk 3 (.reg true c15_8)) (.reg false c15_9))) σ := rfl
theorem c15_L1_u : EC Γ ps 0 Jyo σ = EC Γ ps 0 (.seq (.seq (.reg false c15_5) (.cond (.t 14) .skip (.seq (.trim [3]) (.exit 0)))) (.seq (.blk 1 (.seq (.reg false c15_6) (.blk 2 (.loop [1, 3, 4, 5] Jue)))) (.reg false J17))) σ := rfl
attribute [simp ↓] c15_L0_u c15_L1_u
def Zq (k0 : Ji) (k1 : Int) (s : (Int × Int)) : Option (LR (Int × Int) Int) := match s with
 | (s0, s1) => (J3 (fget k0.Rows k1) fun v8 => (if (ilt s1 (flen v8.Runs)) = true then (J3 (fget v8.Runs s1) fun v13 => some (.nx ((iadd .i64 s0 (isub .i64 v13.To v13.From)), (iadd .i64 s1 1))))
 else some (.dn s0)))
def Z4 (k0 : Ji) (k1 : Int) (s : (Int × Int)) : St := match s with
 | (s0, s1) => ⟨fr [(1, .ptr 1 0 0), (3, .int .i64 s0), (4, .int .i64 k1), (5, .int .i64 s1)], hl [(1, .box 0 [encF Jg k0.Rows])]⟩
def zj (k0 : Ji) (k1 : Int) (x : Int) : LE × St := (.exit 2, ⟨fr [(1, .ptr 1 0 0), (3, .int .i64 x), (4, .int .i64 k1)], hl [(1, .box 0 [encF Jg k0.Rows])]⟩)
theorem Jfx {k0} {k1} {s} {r} (h : Ky (Zq k0 k1) bigN s = some r) : LK env [] 0 [1, 3, 4, 5] Jue (some (Z4 k0 k1 s)) = some (zj k0 k1 r) := Kt (st := Z4 k0 k1) (out := zj k0 k1) (by
 clear h s r
 rintro ⟨s0, s1⟩ x h
 simp only [Zq] at h
 obtain ⟨v9, h8, h⟩ := oS h
 have f7 := Kc (e := Jg) h8
 rcases ifC h with ⟨c10, h⟩ | ⟨c10, h⟩
 ·obtain ⟨v14, h13, h⟩ := oS h
  have f12 := Kc (e := J9) h13
  cases h
  simp only [Z4]
  rw [Jn]
  simp [*]
 ·cases h
  simp only [Z4, zj]
  rw [Jn]
  simp [*]) bigN s r h
def Zy (k0 : Ji) (s : (Int × Int)) : Option (LR (Int × Int) Int) := match s with
 | (s0, s1) => (if (ilt s1 (flen k0.Rows)) = true then (J3 (Ky (Zq k0 s1) bigN (s0, 0)) fun v17 => some (.nx (v17, (iadd .i64 s1 1))))
 else some (.dn s0))
def Z5 (k0 : Ji) (s : (Int × Int)) : St := match s with
 | (s0, s1) => ⟨fr [(1, .ptr 1 0 0), (3, .int .i64 s0), (4, .int .i64 s1)], hl [(1, .box 0 [encF Jg k0.Rows])]⟩
def zn (k0 : Ji) (x : Int) : LE × St := (.exit 0, ⟨fr [(3, .int .i64 x)], hl []⟩)
theorem Jf0 {k0} {s} {r} (h : Ky (Zy k0) bigN s = some r) : LK env [] 0 [1, 3, 4] Jyo (some (Z5 k0 s)) = some (zn k0 r) := Kt (st := Z5 k0) (out := zn k0) (by
 clear h s r
 rintro ⟨s0, s1⟩ x h
 simp only [Zy] at h
 rcases ifC h with ⟨c6, h⟩ | ⟨c6, h⟩
 ·obtain ⟨v18, h17, h⟩ := oS h
  have f19 := Jfx h17
  simp only [Z4, zj, J5] at f19
  try simp only [Jj, Jk, Jq, Jv, Jt, Jx, Jw, Ju] at f19
  cases h
  simp only [Z5]
  rw [Jn]
  try simp only [c6] at f19
  simp [*]
 ·cases h
  simp only [Z5, zn]
  rw [Jn]
  simp [*]) bigN s r h
def Z7 (p0 : Ji) : Option Int := (J3 (K1 p0) fun v3 => (if (bnot v3) = true then some 0
 else (J3 (Ky (Zy p0) bigN (0, 0)) fun v20 => some v20)))
theorem Jhf {p0} {r} (h : Z7 p0 = some r) : FC env 15 [.agg [encF Jg p0.Rows]] none = some (.int .i64 r, fun _ => none) := by
 unfold Z7 at h
 obtain ⟨v3, h2, h⟩ := oS h
 have f1 := zg h2
 rcases ifC h with ⟨c4, h⟩ | ⟨c4, h⟩
 ·cases h
  refine J4 (lf := lf15) rfl rfl rfl ?_
  simp only [lf15, lc15]
  rcases tof v3 with a5 | a5
  ·simp [a5] at c4
  ·simp [*]
 ·obtain ⟨v22, h21, h⟩ := oS h
  have f23 := Jf0 h21
  simp only [Z5, zn, J5] at f23
  try simp only [Jj, Jk, Jq, Jv, Jt, Jx, Jw, Ju] at f23
  cases h
  refine J4 (lf := lf15) rfl rfl rfl ?_
  simp only [lf15, lc15]
  rcases tof v3 with a25 | a25
  ·try simp only [a25] at f23
   simp [*]
  ·simp [a25] at c4
attribute [simp] c5_0 c5_1 c5_2 c5_3 c5_4 c5_5 c5_7
theorem c5_L0_u : EC Γ ps 0 c5_L0 σ = EC Γ ps 0 (.seq (.seq (.reg false c5_2) (.cond (.t 12) .skip (.seq (.trim [1]) (.exit 0)))) (.seq (.blk 1 (.seq (.reg false c5_3) (.cond (.t 32) (.seq (.reg false c5_4) (.seq (.trim [2]) .ret)) .skip))) (.reg false c5_5))) σ := rfl
attribute [simp ↓] c5_L0_u
def Q7 (k0 : Qe) (s : Int) : Option (LR Int (Bool ⊕ Unit)) := match s with
 | s0 => (if (band (ilt s0 (flen k0.Tracks)) (ilt s0 9)) = true then (J3 (fget k0.Tracks s0) fun v4 => (J3 (gOpt (bnot (igt (flen v4.Cells) 40)) (z2 v4.Cells)) fun v8 => (if (bor (igt (flen v4.Cells) 40) (bnot (v8.getD false))) = true then some (.dn (.inl false))
 else some (.nx (iadd .i64 s0 1)))))
 else some (.dn (.inr ())))
def Xt (k0 : Qe) (s : Int) : St := match s with
 | s0 => ⟨fr [(1, .ptr 1 0 0), (3, .int .i64 s0)], hl [(1, .box 0 [encF Jh k0.Tracks, encF Jg k0.Region.Rows, .int .i64 k0.Index, .int .i64 k0.From.X, .int .i64 k0.From.Y])]⟩
def Yv (k0 : Qe) (x : (Bool ⊕ Unit)) : LE × St := match x with
 | .inl x => (.ret, ⟨fr [(2, .bool x)], hl []⟩)
 | .inr x => (.exit 0, ⟨fr [(1, .ptr 1 0 0)], hl [(1, .box 0 [encF Jh k0.Tracks, encF Jg k0.Region.Rows, .int .i64 k0.Index, .int .i64 k0.From.X, .int .i64 k0.From.Y])]⟩)
theorem Jgx {k0} {s} {r} (h : Ky (Q7 k0) bigN s = some r) : LK env [] 0 [1, 3] c5_L0 (some (Xt k0 s)) = some (Yv k0 r) := Kt (st := Xt k0) (out := Yv k0) (by
 clear h s r
 rintro s0 x h
 simp only [Q7] at h
 rcases ifC h with ⟨c1, h⟩ | ⟨c1, h⟩
 ·obtain ⟨v4, h3, h⟩ := oS h
  have f2 := Kc (e := Jh) h3
  obtain ⟨v8, h7, h⟩ := oS h
  have f6 := fun (q0 : (igt (flen v4.Cells) 40) = false) => Jd0 (Kb false h7 (Qo q0))
  rcases ifC h with ⟨c9, h⟩ | ⟨c9, h⟩
  ·cases h
   simp only [Xt, Yv]
   rw [Jn]
   rcases tof (ilt s0 (flen k0.Tracks)) with a10 | a10 <;> rcases tof (ilt s0 9) with a11 | a11 <;> rcases tof (igt (flen v4.Cells) 40) with a12 | a12 <;> rcases tof (v8.getD false) with a13 | a13 <;> (try (simp [a10, a11, a12, a13] at c9 c1; done)) <;> simp [*]
  ·cases h
   simp only [Xt]
   rw [Jn]
   rcases tof (ilt s0 (flen k0.Tracks)) with a14 | a14 <;> rcases tof (ilt s0 9) with a15 | a15 <;> rcases tof (igt (flen v4.Cells) 40) with a16 | a16 <;> rcases tof (v8.getD false) with a17 | a17 <;> (try (simp [a14, a15, a16, a17] at c9 c1; done)) <;> simp [*]
 ·cases h
  simp only [Xt, Yv]
  rw [Jn]
  rcases tof (ilt s0 (flen k0.Tracks)) with a18 | a18 <;> rcases tof (ilt s0 9) with a19 | a19 <;> (try (simp [a18, a19] at c1; done)) <;> simp [*]) bigN s r h
def Jbd (p0 : Qe) : Option Bool := (J3 (Ky (Q7 p0) bigN 0) fun v11 => (match v11 with
 | .inl v11x => some v11x
 | .inr v11x => (J3 (gOpt (ile (flen p0.Tracks) 8) (z2 (flit ([p0.From] : List Ja)))) fun v16 => (J3 (gOpt (band (ile (flen p0.Tracks) 8) (v16.getD false)) (Z7 p0.Region)) fun v19 => some (band (band (ile (flen p0.Tracks) 8) (v16.getD false)) (ile (v19.getD 0) 150))))))
theorem Jid {p0} {r} (h : Jbd p0 = some r) : FC env 5 [.agg [encF Jh p0.Tracks, encF Jg p0.Region.Rows, .int .i64 p0.Index, .int .i64 p0.From.X, .int .i64 p0.From.Y]] none = some (.bool r, fun _ => none) := by
 unfold Jbd at h
 obtain ⟨v21, h20, h⟩ := oS h
 have f22 := Jgx h20
 cases v21 with
 | inl v21x =>
  try simp only at h
  simp only [Xt, Yv, J5] at f22
  try simp only [Jj, Jk, Jq, Jv, Jt, Jx, Jw, Ju] at f22
  cases h
  refine J4 (lf := lf5) rfl rfl rfl ?_
  simp only [lf5, lc5]
  simp [*]
 | inr v21x =>
  try simp only at h
  simp only [Xt, Yv, J5] at f22
  try simp only [Jj, Jk, Jq, Jv, Jt, Jx, Jw, Ju] at f22
  have f25 := fun (H : Heap) (g0 : Nat) => bszV_ok (e := Je) H g0 1 2 27 [p0.From] [.int .i64 p0.From.X, .int .i64 p0.From.Y] rfl (by simp [Je]) rfl rfl
  obtain ⟨v28, h27, h⟩ := oS h
  have f26 := fun (q0 : (ile (flen p0.Tracks) 8) = true) => Jd0 (Kb false h27 q0)
  obtain ⟨v31, h30, h⟩ := oS h
  have f29 := fun (q0 : (band (ile (flen p0.Tracks) 8) (v28.getD false)) = true) => Jhf (Kb 0 h30 q0)
  cases h
  refine J4 (lf := lf5) rfl rfl rfl ?_
  simp only [lf5, lc5]
  rcases tof (ile (flen p0.Tracks) 8) with a32 | a32 <;> rcases tof (v28.getD false) with a33 | a33 <;> (try simp only [a32, a33] at f22) <;> simp [*]
def Jbp : Bool := true
theorem Jca : FC env 6 [] none = some (.bool Jbp, fun _ => none) := Jge.2 ⟨60, by kernel_rfl⟩
attribute [simp] c56_0 c56_1
def Jc (p0 : Int) (p1 : Int) (p2 : Int) : Bool := (band (ige p0 p1) (ile p0 p2))
def t_flow_within (p0 : Int) (p1 : Int) (p2 : Int) : Option Bool := some (Jc p0 p1 p2)
theorem K8 (p0 : Int) (p1 : Int) (p2 : Int) : FC env 56 [.int .i64 p0, .int .i64 p1, .int .i64 p2] none = some (.bool (Jc p0 p1 p2), fun _ => none) := by
 unfold Jc
 refine J4 (lf := lf56) rfl rfl rfl ?_
 simp only [lf56, lc56]
 rcases tof (ige p0 p1) with a1 | a1
 ·simp [*]
 ·simp [*]
attribute [simp] c55_0 c55_1
def Zk (p0 : Int) (p1 : Int) (p2 : Int) : Bool := (band (Jc p0 p1 p2) (ieq (irem p0 2) 0))
def t_flow_even (p0 : Int) (p1 : Int) (p2 : Int) : Option Bool := some (Zk p0 p1 p2)
theorem Jjn (p0 : Int) (p1 : Int) (p2 : Int) : FC env 55 [.int .i64 p0, .int .i64 p1, .int .i64 p2] none = some (.bool (Zk p0 p1 p2), fun _ => none) := by
 unfold Zk
 have f1 := K8 p0 p1 p2
 refine J4 (lf := lf55) rfl rfl rfl ?_
 simp only [lf55, lc55]
 rcases tof (Jc p0 p1 p2) with a2 | a2
 ·simp [*, (show ieq 2 0 = false from rfl)]
 ·simp [*, (show ieq 2 0 = false from rfl)]
attribute [simp] c37_0 c37_1
def Ys (p0 : J6) : Jhr := (⟨(bor (bnot (Zk p0.Pitch 32 1024)) (bnot (Zk p0.Height 4 1024))), (bor (bor (bnot (Jc p0.Walls 0 8)) (bnot (Jc p0.Top 0 16))) (bnot (Jc p0.Bottom 0 16))), (bor (bnot (Jc p0.Pattern 0 3)) (bnot (Jc p0.Spacing 1 64))), (bor (bor (bor (bnot (Jc p0.Reach 0 64)) (bnot (Jc p0.Gap 0 64))) (bnot (Jc p0.Brim 0 64))) (bnot (Jc p0.Skirt 0 63))), (bor (bnot (Jc p0.Drop 1 1073741824)) (bnot (Jc p0.Retract 0 65536))), (bor (bor (bor (bnot (Jc p0.Feed 1 1048576)) (bnot (Jc p0.Travel 1 1048576))) (bnot (Jc p0.MinTime 0 1048576))) (bnot (Jc p0.MinFeed 1 p0.Feed))), (bor (bnot (Jc p0.Nozzle 0 400000)) (bnot (Jc p0.Bed 0 400000)))⟩ : Jhr)
def t_flow_check (p0 : J6) : Option Jhr := some (Ys p0)
theorem Jmo (p0 : J6) : FC env 37 [.agg [.int .i64 p0.Pitch, .int .i64 p0.Height, .int .i64 p0.Walls, .int .i64 p0.Top, .int .i64 p0.Bottom, .int .i64 p0.Pattern, .int .i64 p0.Spacing, .bool p0.Support, .int .i64 p0.Reach, .int .i64 p0.Gap, .int .i64 p0.Brim, .int .i64 p0.Skirt, .int .i64 p0.Drop, .int .i64 p0.Feed, .int .i64 p0.Travel, .int .i64 p0.Retract, .int .i64 p0.MinTime, .int .i64 p0.MinFeed, .int .i64 p0.Nozzle, .int .i64 p0.Bed]] none = some (.agg [.bool (((Ys p0)).grid), .bool (((Ys p0)).solid), .bool (((Ys p0)).pattern), .bool (((Ys p0)).around), .bool (((Ys p0)).filament), .bool (((Ys p0)).speeds), .bool (((Ys p0)).heat)], fun _ => none) := by
 unfold Ys
 refine J4 (lf := lf37) rfl rfl rfl ?_
 simp only [lf37, lc37]
 simp [-c37_1]
 unfold c37_1
 rw [Qp (v := (.ptr 1 0 0))]
 rotate_left
 ·rfl
 ·simp []
 rw [Qp (v := (.int .i64 p0.Pitch))]
 rotate_left
 ·rfl
 ·simp []
 have f1 := Jjn p0.Pitch 32 1024
 rw [Qp (v := (.bool (Zk p0.Pitch 32 1024)))]
 rotate_left
 ·rfl
 ·simp [f1]
 rw [Qp (v := (.bool (bnot (Zk p0.Pitch 32 1024))))]
 rotate_left
 ·rfl
 ·simp []
 rw [Qp (v := (.bool (bnot (Zk p0.Pitch 32 1024))))]
 rotate_left
 ·rfl
 ·simp []
 rw [Qt (c := (bnot (Zk p0.Pitch 32 1024))) (v := (.ptr 1 0 1))]
 rotate_left
 ·rfl
 ·simp
 ·intro q
  simp [q]
 rw [Qt (c := (bnot (Zk p0.Pitch 32 1024))) (v := (.int .i64 p0.Height))]
 rotate_left
 ·rfl
 ·simp
 ·intro q
  simp [q]
 have f2 := Jjn p0.Height 4 1024
 rw [Qt (c := (bnot (Zk p0.Pitch 32 1024))) (v := (.bool (Zk p0.Height 4 1024)))]
 rotate_left
 ·rfl
 ·simp
 ·intro q
  simp [q, f2]
 rw [Qt (c := (bnot (Zk p0.Pitch 32 1024))) (v := (.bool (bnot (Zk p0.Height 4 1024))))]
 rotate_left
 ·rfl
 ·simp
 ·intro q
  simp [q]
 rw [Qp (v := (.bool (bor (bnot (Zk p0.Pitch 32 1024)) (bnot (Zk p0.Height 4 1024)))))]
 rotate_left
 ·rfl
 ·rcases tof (bnot (Zk p0.Pitch 32 1024)) with q | q <;> simp [q]
 rw [Qp (v := (.ptr 1 0 2))]
 rotate_left
 ·rfl
 ·simp []
 rw [Qp (v := (.int .i64 p0.Walls))]
 rotate_left
 ·rfl
 ·simp []
 have f3 := K8 p0.Walls 0 8
 rw [Qp (v := (.bool (Jc p0.Walls 0 8)))]
 rotate_left
 ·rfl
 ·simp [f3]
 rw [Qp (v := (.bool (bnot (Jc p0.Walls 0 8))))]
 rotate_left
 ·rfl
 ·simp []
 rw [Qp (v := (.bool (bnot (Jc p0.Walls 0 8))))]
 rotate_left
 ·rfl
 ·simp []
 rw [Qt (c := (bnot (Jc p0.Walls 0 8))) (v := (.ptr 1 0 3))]
 rotate_left
 ·rfl
 ·simp
 ·intro q
  simp [q]
 rw [Qt (c := (bnot (Jc p0.Walls 0 8))) (v := (.int .i64 p0.Top))]
 rotate_left
 ·rfl
 ·simp
 ·intro q
  simp [q]
 have f4 := K8 p0.Top 0 16
 rw [Qt (c := (bnot (Jc p0.Walls 0 8))) (v := (.bool (Jc p0.Top 0 16)))]
 rotate_left
 ·rfl
 ·simp
 ·intro q
  simp [q, f4]
 rw [Qt (c := (bnot (Jc p0.Walls 0 8))) (v := (.bool (bnot (Jc p0.Top 0 16))))]
 rotate_left
 ·rfl
 ·simp
 ·intro q
  simp [q]
 rw [Qp (v := (.bool (bor (bnot (Jc p0.Walls 0 8)) (bnot (Jc p0.Top 0 16)))))]
 rotate_left
 ·rfl
 ·rcases tof (bnot (Jc p0.Walls 0 8)) with q | q <;> simp [q]
 rw [Qp (v := (.bool (bor (bnot (Jc p0.Walls 0 8)) (bnot (Jc p0.Top 0 16)))))]
 rotate_left
 ·rfl
 ·simp []
 rw [Qt (c := (bor (bnot (Jc p0.Walls 0 8)) (bnot (Jc p0.Top 0 16)))) (v := (.ptr 1 0 4))]
 rotate_left
 ·rfl
 ·simp
 ·intro q
  simp [q]
 rw [Qt (c := (bor (bnot (Jc p0.Walls 0 8)) (bnot (Jc p0.Top 0 16)))) (v := (.int .i64 p0.Bottom))]
 rotate_left
 ·rfl
 ·simp
 ·intro q
  simp [q]
 have f5 := K8 p0.Bottom 0 16
 rw [Qt (c := (bor (bnot (Jc p0.Walls 0 8)) (bnot (Jc p0.Top 0 16)))) (v := (.bool (Jc p0.Bottom 0 16)))]
 rotate_left
 ·rfl
 ·simp
 ·intro q
  simp [q, f5]
 rw [Qt (c := (bor (bnot (Jc p0.Walls 0 8)) (bnot (Jc p0.Top 0 16)))) (v := (.bool (bnot (Jc p0.Bottom 0 16))))]
 rotate_left
 ·rfl
 ·simp
 ·intro q
  simp [q]
 rw [Qp (v := (.bool (bor (bor (bnot (Jc p0.Walls 0 8)) (bnot (Jc p0.Top 0 16))) (bnot (Jc p0.Bottom 0 16)))))]
 rotate_left
 ·rfl
 ·rcases tof (bor (bnot (Jc p0.Walls 0 8)) (bnot (Jc p0.Top 0 16))) with q | q <;> simp [q]
 rw [Qp (v := (.ptr 1 0 5))]
 rotate_left
 ·rfl
 ·simp []
 rw [Qp (v := (.int .i64 p0.Pattern))]
 rotate_left
 ·rfl
 ·simp []
 have f6 := K8 p0.Pattern 0 3
 rw [Qp (v := (.bool (Jc p0.Pattern 0 3)))]
 rotate_left
 ·rfl
 ·simp [f6]
 rw [Qp (v := (.bool (bnot (Jc p0.Pattern 0 3))))]
 rotate_left
 ·rfl
 ·simp []
 rw [Qp (v := (.bool (bnot (Jc p0.Pattern 0 3))))]
 rotate_left
 ·rfl
 ·simp []
 rw [Qt (c := (bnot (Jc p0.Pattern 0 3))) (v := (.ptr 1 0 6))]
 rotate_left
 ·rfl
 ·simp
 ·intro q
  simp [q]
 rw [Qt (c := (bnot (Jc p0.Pattern 0 3))) (v := (.int .i64 p0.Spacing))]
 rotate_left
 ·rfl
 ·simp
 ·intro q
  simp [q]
 have f7 := K8 p0.Spacing 1 64
 rw [Qt (c := (bnot (Jc p0.Pattern 0 3))) (v := (.bool (Jc p0.Spacing 1 64)))]
 rotate_left
 ·rfl
 ·simp
 ·intro q
  simp [q, f7]
 rw [Qt (c := (bnot (Jc p0.Pattern 0 3))) (v := (.bool (bnot (Jc p0.Spacing 1 64))))]
 rotate_left
 ·rfl
 ·simp
 ·intro q
  simp [q]
 rw [Qp (v := (.bool (bor (bnot (Jc p0.Pattern 0 3)) (bnot (Jc p0.Spacing 1 64)))))]
 rotate_left
 ·rfl
 ·rcases tof (bnot (Jc p0.Pattern 0 3)) with q | q <;> simp [q]
 rw [Qp (v := (.ptr 1 0 8))]
 rotate_left
 ·rfl
 ·simp []
 rw [Qp (v := (.int .i64 p0.Reach))]
 rotate_left
 ·rfl
 ·simp []
 have f8 := K8 p0.Reach 0 64
 rw [Qp (v := (.bool (Jc p0.Reach 0 64)))]
 rotate_left
 ·rfl
 ·simp [f8]
 rw [Qp (v := (.bool (bnot (Jc p0.Reach 0 64))))]
 rotate_left
 ·rfl
 ·simp []
 rw [Qp (v := (.bool (bnot (Jc p0.Reach 0 64))))]
 rotate_left
 ·rfl
 ·simp []
 rw [Qt (c := (bnot (Jc p0.Reach 0 64))) (v := (.ptr 1 0 9))]
 rotate_left
 ·rfl
 ·simp
 ·intro q
  simp [q]
 rw [Qt (c := (bnot (Jc p0.Reach 0 64))) (v := (.int .i64 p0.Gap))]
 rotate_left
 ·rfl
 ·simp
 ·intro q
  simp [q]
 have f9 := K8 p0.Gap 0 64
 rw [Qt (c := (bnot (Jc p0.Reach 0 64))) (v := (.bool (Jc p0.Gap 0 64)))]
 rotate_left
 ·rfl
 ·simp
 ·intro q
  simp [q, f9]
 rw [Qt (c := (bnot (Jc p0.Reach 0 64))) (v := (.bool (bnot (Jc p0.Gap 0 64))))]
 rotate_left
 ·rfl
 ·simp
 ·intro q
  simp [q]
 rw [Qp (v := (.bool (bor (bnot (Jc p0.Reach 0 64)) (bnot (Jc p0.Gap 0 64)))))]
 rotate_left
 ·rfl
 ·rcases tof (bnot (Jc p0.Reach 0 64)) with q | q <;> simp [q]
 rw [Qp (v := (.bool (bor (bnot (Jc p0.Reach 0 64)) (bnot (Jc p0.Gap 0 64)))))]
 rotate_left
 ·rfl
 ·simp []
 rw [Qt (c := (bor (bnot (Jc p0.Reach 0 64)) (bnot (Jc p0.Gap 0 64)))) (v := (.ptr 1 0 10))]
 rotate_left
 ·rfl
 ·simp
 ·intro q
  simp [q]
 rw [Qt (c := (bor (bnot (Jc p0.Reach 0 64)) (bnot (Jc p0.Gap 0 64)))) (v := (.int .i64 p0.Brim))]
 rotate_left
 ·rfl
 ·simp
 ·intro q
  simp [q]
 have f10 := K8 p0.Brim 0 64
 rw [Qt (c := (bor (bnot (Jc p0.Reach 0 64)) (bnot (Jc p0.Gap 0 64)))) (v := (.bool (Jc p0.Brim 0 64)))]
 rotate_left
 ·rfl
 ·simp
 ·intro q
  simp [q, f10]
 rw [Qt (c := (bor (bnot (Jc p0.Reach 0 64)) (bnot (Jc p0.Gap 0 64)))) (v := (.bool (bnot (Jc p0.Brim 0 64))))]
 rotate_left
 ·rfl
 ·simp
 ·intro q
  simp [q]
 rw [Qp (v := (.bool (bor (bor (bnot (Jc p0.Reach 0 64)) (bnot (Jc p0.Gap 0 64))) (bnot (Jc p0.Brim 0 64)))))]
 rotate_left
 ·rfl
 ·rcases tof (bor (bnot (Jc p0.Reach 0 64)) (bnot (Jc p0.Gap 0 64))) with q | q <;> simp [q]
 rw [Qp (v := (.bool (bor (bor (bnot (Jc p0.Reach 0 64)) (bnot (Jc p0.Gap 0 64))) (bnot (Jc p0.Brim 0 64)))))]
 rotate_left
 ·rfl
 ·simp []
 rw [Qt (c := (bor (bor (bnot (Jc p0.Reach 0 64)) (bnot (Jc p0.Gap 0 64))) (bnot (Jc p0.Brim 0 64)))) (v := (.ptr 1 0 11))]
 rotate_left
 ·rfl
 ·simp
 ·intro q
  simp [q]
 rw [Qt (c := (bor (bor (bnot (Jc p0.Reach 0 64)) (bnot (Jc p0.Gap 0 64))) (bnot (Jc p0.Brim 0 64)))) (v := (.int .i64 p0.Skirt))]
 rotate_left
 ·rfl
 ·simp
 ·intro q
  simp [q]
 have f11 := K8 p0.Skirt 0 63
 rw [Qt (c := (bor (bor (bnot (Jc p0.Reach 0 64)) (bnot (Jc p0.Gap 0 64))) (bnot (Jc p0.Brim 0 64)))) (v := (.bool (Jc p0.Skirt 0 63)))]
 rotate_left
 ·rfl
 ·simp
 ·intro q
  simp [q, f11]
 rw [Qt (c := (bor (bor (bnot (Jc p0.Reach 0 64)) (bnot (Jc p0.Gap 0 64))) (bnot (Jc p0.Brim 0 64)))) (v := (.bool (bnot (Jc p0.Skirt 0 63))))]
 rotate_left
 ·rfl
 ·simp
 ·intro q
  simp [q]
 rw [Qp (v := (.bool (bor (bor (bor (bnot (Jc p0.Reach 0 64)) (bnot (Jc p0.Gap 0 64))) (bnot (Jc p0.Brim 0 64))) (bnot (Jc p0.Skirt 0 63)))))]
 rotate_left
 ·rfl
 ·rcases tof (bor (bor (bnot (Jc p0.Reach 0 64)) (bnot (Jc p0.Gap 0 64))) (bnot (Jc p0.Brim 0 64))) with q | q <;> simp [q]
 rw [Qp (v := (.ptr 1 0 12))]
 rotate_left
 ·rfl
 ·simp []
 rw [Qp (v := (.int .i64 p0.Drop))]
 rotate_left
 ·rfl
 ·simp []
 have f12 := K8 p0.Drop 1 1073741824
 rw [Qp (v := (.bool (Jc p0.Drop 1 1073741824)))]
 rotate_left
 ·rfl
 ·simp [f12]
 rw [Qp (v := (.bool (bnot (Jc p0.Drop 1 1073741824))))]
 rotate_left
 ·rfl
 ·simp []
 rw [Qp (v := (.bool (bnot (Jc p0.Drop 1 1073741824))))]
 rotate_left
 ·rfl
 ·simp []
 rw [Qt (c := (bnot (Jc p0.Drop 1 1073741824))) (v := (.ptr 1 0 15))]
 rotate_left
 ·rfl
 ·simp
 ·intro q
  simp [q]
 rw [Qt (c := (bnot (Jc p0.Drop 1 1073741824))) (v := (.int .i64 p0.Retract))]
 rotate_left
 ·rfl
 ·simp
 ·intro q
  simp [q]
 have f13 := K8 p0.Retract 0 65536
 rw [Qt (c := (bnot (Jc p0.Drop 1 1073741824))) (v := (.bool (Jc p0.Retract 0 65536)))]
 rotate_left
 ·rfl
 ·simp
 ·intro q
  simp [q, f13]
 rw [Qt (c := (bnot (Jc p0.Drop 1 1073741824))) (v := (.bool (bnot (Jc p0.Retract 0 65536))))]
 rotate_left
 ·rfl
 ·simp
 ·intro q
  simp [q]
 rw [Qp (v := (.bool (bor (bnot (Jc p0.Drop 1 1073741824)) (bnot (Jc p0.Retract 0 65536)))))]
 rotate_left
 ·rfl
 ·rcases tof (bnot (Jc p0.Drop 1 1073741824)) with q | q <;> simp [q]
 rw [Qp (v := (.ptr 1 0 13))]
 rotate_left
 ·rfl
 ·simp []
 rw [Qp (v := (.int .i64 p0.Feed))]
 rotate_left
 ·rfl
 ·simp []
 have f14 := K8 p0.Feed 1 1048576
 rw [Qp (v := (.bool (Jc p0.Feed 1 1048576)))]
 rotate_left
 ·rfl
 ·simp [f14]
 rw [Qp (v := (.bool (bnot (Jc p0.Feed 1 1048576))))]
 rotate_left
 ·rfl
 ·simp []
 rw [Qp (v := (.bool (bnot (Jc p0.Feed 1 1048576))))]
 rotate_left
 ·rfl
 ·simp []
 rw [Qt (c := (bnot (Jc p0.Feed 1 1048576))) (v := (.ptr 1 0 14))]
 rotate_left
 ·rfl
 ·simp
 ·intro q
  simp [q]
 rw [Qt (c := (bnot (Jc p0.Feed 1 1048576))) (v := (.int .i64 p0.Travel))]
 rotate_left
 ·rfl
 ·simp
 ·intro q
  simp [q]
 have f15 := K8 p0.Travel 1 1048576
 rw [Qt (c := (bnot (Jc p0.Feed 1 1048576))) (v := (.bool (Jc p0.Travel 1 1048576)))]
 rotate_left
 ·rfl
 ·simp
 ·intro q
  simp [q, f15]
 rw [Qt (c := (bnot (Jc p0.Feed 1 1048576))) (v := (.bool (bnot (Jc p0.Travel 1 1048576))))]
 rotate_left
 ·rfl
 ·simp
 ·intro q
  simp [q]
 rw [Qp (v := (.bool (bor (bnot (Jc p0.Feed 1 1048576)) (bnot (Jc p0.Travel 1 1048576)))))]
 rotate_left
 ·rfl
 ·rcases tof (bnot (Jc p0.Feed 1 1048576)) with q | q <;> simp [q]
 rw [Qp (v := (.bool (bor (bnot (Jc p0.Feed 1 1048576)) (bnot (Jc p0.Travel 1 1048576)))))]
 rotate_left
 ·rfl
 ·simp []
 rw [Qt (c := (bor (bnot (Jc p0.Feed 1 1048576)) (bnot (Jc p0.Travel 1 1048576)))) (v := (.ptr 1 0 16))]
 rotate_left
 ·rfl
 ·simp
 ·intro q
  simp [q]
 rw [Qt (c := (bor (bnot (Jc p0.Feed 1 1048576)) (bnot (Jc p0.Travel 1 1048576)))) (v := (.int .i64 p0.MinTime))]
 rotate_left
 ·rfl
 ·simp
 ·intro q
  simp [q]
 have f16 := K8 p0.MinTime 0 1048576
 rw [Qt (c := (bor (bnot (Jc p0.Feed 1 1048576)) (bnot (Jc p0.Travel 1 1048576)))) (v := (.bool (Jc p0.MinTime 0 1048576)))]
 rotate_left
 ·rfl
 ·simp
 ·intro q
  simp [q, f16]
 rw [Qt (c := (bor (bnot (Jc p0.Feed 1 1048576)) (bnot (Jc p0.Travel 1 1048576)))) (v := (.bool (bnot (Jc p0.MinTime 0 1048576))))]
 rotate_left
 ·rfl
 ·simp
 ·intro q
  simp [q]
 rw [Qp (v := (.bool (bor (bor (bnot (Jc p0.Feed 1 1048576)) (bnot (Jc p0.Travel 1 1048576))) (bnot (Jc p0.MinTime 0 1048576)))))]
 rotate_left
 ·rfl
 ·rcases tof (bor (bnot (Jc p0.Feed 1 1048576)) (bnot (Jc p0.Travel 1 1048576))) with q | q <;> simp [q]
 rw [Qp (v := (.bool (bor (bor (bnot (Jc p0.Feed 1 1048576)) (bnot (Jc p0.Travel 1 1048576))) (bnot (Jc p0.MinTime 0 1048576)))))]
 rotate_left
 ·rfl
 ·simp []
 rw [Qt (c := (bor (bor (bnot (Jc p0.Feed 1 1048576)) (bnot (Jc p0.Travel 1 1048576))) (bnot (Jc p0.MinTime 0 1048576)))) (v := (.ptr 1 0 17))]
 rotate_left
 ·rfl
 ·simp
 ·intro q
  simp [q]
 rw [Qt (c := (bor (bor (bnot (Jc p0.Feed 1 1048576)) (bnot (Jc p0.Travel 1 1048576))) (bnot (Jc p0.MinTime 0 1048576)))) (v := (.int .i64 p0.MinFeed))]
 rotate_left
 ·rfl
 ·simp
 ·intro q
  simp [q]
 rw [Qt (c := (bor (bor (bnot (Jc p0.Feed 1 1048576)) (bnot (Jc p0.Travel 1 1048576))) (bnot (Jc p0.MinTime 0 1048576)))) (v := (.ptr 1 0 13))]
 rotate_left
 ·rfl
 ·simp
 ·intro q
  simp [q]
 rw [Qt (c := (bor (bor (bnot (Jc p0.Feed 1 1048576)) (bnot (Jc p0.Travel 1 1048576))) (bnot (Jc p0.MinTime 0 1048576)))) (v := (.int .i64 p0.Feed))]
 rotate_left
 ·rfl
 ·simp
 ·intro q
  simp [q]
 have f17 := K8 p0.MinFeed 1 p0.Feed
 rw [Qt (c := (bor (bor (bnot (Jc p0.Feed 1 1048576)) (bnot (Jc p0.Travel 1 1048576))) (bnot (Jc p0.MinTime 0 1048576)))) (v := (.bool (Jc p0.MinFeed 1 p0.Feed)))]
 rotate_left
 ·rfl
 ·simp
 ·intro q
  simp [q, f17]
 rw [Qt (c := (bor (bor (bnot (Jc p0.Feed 1 1048576)) (bnot (Jc p0.Travel 1 1048576))) (bnot (Jc p0.MinTime 0 1048576)))) (v := (.bool (bnot (Jc p0.MinFeed 1 p0.Feed))))]
 rotate_left
 ·rfl
 ·simp
 ·intro q
  simp [q]
 rw [Qp (v := (.bool (bor (bor (bor (bnot (Jc p0.Feed 1 1048576)) (bnot (Jc p0.Travel 1 1048576))) (bnot (Jc p0.MinTime 0 1048576))) (bnot (Jc p0.MinFeed 1 p0.Feed)))))]
 rotate_left
 ·rfl
 ·rcases tof (bor (bor (bnot (Jc p0.Feed 1 1048576)) (bnot (Jc p0.Travel 1 1048576))) (bnot (Jc p0.MinTime 0 1048576))) with q | q <;> simp [q]
 rw [Qp (v := (.ptr 1 0 18))]
 rotate_left
 ·rfl
 ·simp []
 rw [Qp (v := (.int .i64 p0.Nozzle))]
 rotate_left
 ·rfl
 ·simp []
 have f18 := K8 p0.Nozzle 0 400000
 rw [Qp (v := (.bool (Jc p0.Nozzle 0 400000)))]
 rotate_left
 ·rfl
 ·simp [f18]
 rw [Qp (v := (.bool (bnot (Jc p0.Nozzle 0 400000))))]
 rotate_left
 ·rfl
 ·simp []
 rw [Qp (v := (.bool (bnot (Jc p0.Nozzle 0 400000))))]
 rotate_left
 ·rfl
 ·simp []
 rw [Qt (c := (bnot (Jc p0.Nozzle 0 400000))) (v := (.ptr 1 0 19))]
 rotate_left
 ·rfl
 ·simp
 ·intro q
  simp [q]
 rw [Qt (c := (bnot (Jc p0.Nozzle 0 400000))) (v := (.int .i64 p0.Bed))]
 rotate_left
 ·rfl
 ·simp
 ·intro q
  simp [q]
 have f19 := K8 p0.Bed 0 400000
 rw [Qt (c := (bnot (Jc p0.Nozzle 0 400000))) (v := (.bool (Jc p0.Bed 0 400000)))]
 rotate_left
 ·rfl
 ·simp
 ·intro q
  simp [q, f19]
 rw [Qt (c := (bnot (Jc p0.Nozzle 0 400000))) (v := (.bool (bnot (Jc p0.Bed 0 400000))))]
 rotate_left
 ·rfl
 ·simp
 ·intro q
  simp [q]
 rw [Qp (v := (.bool (bor (bnot (Jc p0.Nozzle 0 400000)) (bnot (Jc p0.Bed 0 400000)))))]
 rotate_left
 ·rfl
 ·rcases tof (bnot (Jc p0.Nozzle 0 400000)) with q | q <;> simp [q]
 simp [*]
attribute [simp] c20_0 c20_1
def Xo (p0 : J6) : Bool := (band (beqB (((Ys p0)).grid) false) (band (beqB (((Ys p0)).solid) false) (band (beqB (((Ys p0)).pattern) false) (band (beqB (((Ys p0)).around) false) (band (beqB (((Ys p0)).filament) false) (band (beqB (((Ys p0)).speeds) false) (band (beqB (((Ys p0)).heat) false) true)))))))
def t_flow_Valid (p0 : J6) : Option Bool := some (Xo p0)
theorem Jin (p0 : J6) : FC env 20 [.agg [.int .i64 p0.Pitch, .int .i64 p0.Height, .int .i64 p0.Walls, .int .i64 p0.Top, .int .i64 p0.Bottom, .int .i64 p0.Pattern, .int .i64 p0.Spacing, .bool p0.Support, .int .i64 p0.Reach, .int .i64 p0.Gap, .int .i64 p0.Brim, .int .i64 p0.Skirt, .int .i64 p0.Drop, .int .i64 p0.Feed, .int .i64 p0.Travel, .int .i64 p0.Retract, .int .i64 p0.MinTime, .int .i64 p0.MinFeed, .int .i64 p0.Nozzle, .int .i64 p0.Bed]] none = some (.bool (Xo p0), fun _ => none) := by
 unfold Xo
 have f1 := Jmo p0
 refine J4 (lf := lf20) rfl rfl rfl ?_
 simp only [lf20, lc20]
 simp [*]
attribute [simp] c38_0 c38_1
def Kx (p0 : Int) : Bool := (band (ige p0 (-4096)) (ilt p0 4096))
def t_region_ok (p0 : Int) : Option Bool := some (Kx p0)
theorem Jgp (p0 : Int) : FC env 38 [.int .i64 p0] none = some (.bool (Kx p0), fun _ => none) := by
 unfold Kx
 refine J4 (lf := lf38) rfl rfl rfl ?_
 simp only [lf38, lc38]
 rcases tof (ige p0 (-4096)) with a1 | a1
 ·simp [*]
 ·simp [*]
attribute [simp] c57_0 c57_1
def Jav (p0 : Jf) : Bool := (band (band (band (ige p0.From (-1048576)) (ile p0.From 1048576)) (ige p0.To (-1048576))) (ile p0.To 1048576))
def t_runs_fits (p0 : Jf) : Option Bool := some (Jav p0)
theorem Joh (p0 : Jf) : FC env 57 [.agg [.int .i64 p0.From, .int .i64 p0.To]] none = some (.bool (Jav p0), fun _ => none) := by
 unfold Jav
 refine J4 (lf := lf57) rfl rfl rfl ?_
 simp only [lf57, lc57]
 rcases tof (ige p0.From (-1048576)) with a1 | a1 <;> rcases tof (ile p0.From 1048576) with a2 | a2 <;> rcases tof (ige p0.To (-1048576)) with a3 | a3 <;> simp [*]
attribute [simp] c39_0 c39_1 c39_2 c39_3 c39_4 c39_5 c39_6 c39_8
theorem c39_L0_u : EC Γ ps 0 Jx3 σ = EC Γ ps 0 (.seq (.reg false c39_2) (.seq (.cond (.t 8) .skip (.seq (.trim []) (.exit 0))) (.seq (.blk 1 (.seq (.reg false c39_3) (.seq (.reg true c39_4) (.cond (.t 36) (.seq (.reg false c39_5) (.seq (.trim [2]) .ret)) .skip)))) (.reg false c39_6)))) σ := rfl
attribute [simp ↓] c39_L0_u
def Z8 (k0 : (FS Jf)) (k1 : (FS Jf)) (k2 : Int) (s : Int) : Option (LR Int (Bool ⊕ Unit)) := match s with
 | s0 => (if (ilt s0 k2) = true then (J3 (fget k1 s0) fun v4 => (J3 (gOpt (band (bnot (bor (ige v4.From v4.To) (bnot (Jav v4)))) (igt s0 0)) (fget k0 (isub .i64 s0 1))) fun v8 => (if (bor (bor (ige v4.From v4.To) (bnot (Jav v4))) (band (igt s0 0) (ile v4.From (((v8.getD (⟨0, 0⟩ : Jf))).To)))) = true then some (.dn (.inl false))
 else some (.nx (iadd .i64 s0 1)))))
 else some (.dn (.inr ())))
def zu (k0 : (FS Jf)) (k1 : (FS Jf)) (k2 : Int) (s : Int) : St := match s with
 | s0 => ⟨fr [(0, encF J9 k0), (5, encF J9 k1), (6, .int .i64 k2), (7, .int .i64 s0)], hl []⟩
def Jab (k0 : (FS Jf)) (k1 : (FS Jf)) (k2 : Int) (x : (Bool ⊕ Unit)) : LE × St := match x with
 | .inl x => (.ret, ⟨fr [(2, .bool x)], hl []⟩)
 | .inr x => (.exit 0, ⟨fr [], hl []⟩)
theorem Jkc {k0} {k1} {k2} {s} {r} (h : Ky (Z8 k0 k1 k2) bigN s = some r) : LK env [] 0 [0, 5, 6, 7] Jx3 (some (zu k0 k1 k2 s)) = some (Jab k0 k1 k2 r) := Kt (st := zu k0 k1 k2) (out := Jab k0 k1 k2) (by
 clear h s r
 rintro s0 x h
 simp only [Z8] at h
 rcases ifC h with ⟨c1, h⟩ | ⟨c1, h⟩
 ·obtain ⟨v4, h3, h⟩ := oS h
  have f2 := Kc (e := J9) h3
  have f5 := Joh v4
  obtain ⟨v8, h7, h⟩ := oS h
  have f6 := fun (q0 : (bor (ige v4.From v4.To) (bnot (Jav v4))) = false) (q1 : (igt s0 0) = true) => Kc (e := J9) (Kb (⟨0, 0⟩ : Jf) h7 (z6 (Qo q0) q1))
  rcases ifC h with ⟨c9, h⟩ | ⟨c9, h⟩
  ·cases h
   simp only [zu, Jab]
   rw [Jn]
   rcases tof (ige v4.From v4.To) with a10 | a10 <;> rcases tof (Jav v4) with a11 | a11 <;> rcases tof (igt s0 0) with a12 | a12 <;> rcases tof (ile v4.From (((v8.getD (⟨0, 0⟩ : Jf))).To)) with a13 | a13 <;> (try (simp [c1, a10, a11, a12, a13] at c9; done)) <;> simp [*]
  ·cases h
   simp only [zu]
   rw [Jn]
   rcases tof (ige v4.From v4.To) with a14 | a14 <;> rcases tof (Jav v4) with a15 | a15 <;> rcases tof (igt s0 0) with a16 | a16 <;> rcases tof (ile v4.From (((v8.getD (⟨0, 0⟩ : Jf))).To)) with a17 | a17 <;> (try (simp [c1, a14, a15, a16, a17] at c9; done)) <;> simp [*]
 ·cases h
  simp only [zu, Jab]
  rw [Jn]
  simp [*]) bigN s r h
def Jc6 (p0 : (FS Jf)) : Option Bool := (J3 (Ky (Z8 p0 p0 (flen p0)) bigN 0) fun v11 => (match v11 with
 | .inl v11x => some v11x
 | .inr v11x => some true))
theorem Ji1 {p0} {r} (h : Jc6 p0 = some r) : FC env 39 [encF J9 p0] none = some (.bool r, fun _ => none) := by
 unfold Jc6 at h
 obtain ⟨v19, h18, h⟩ := oS h
 have f20 := Jkc h18
 cases v19 with
 | inl v19x =>
  try simp only at h
  simp only [zu, Jab, J5] at f20
  try simp only [Jj, Jk, Jq, Jv, Jt, Jx, Jw, Ju] at f20
  cases h
  refine J4 (lf := lf39) rfl rfl rfl ?_
  simp only [lf39, lc39]
  simp [*]
 | inr v19x =>
  try simp only at h
  simp only [zu, Jab, J5] at f20
  try simp only [Jj, Jk, Jq, Jv, Jt, Jx, Jw, Ju] at f20
  cases h
  refine J4 (lf := lf39) rfl rfl rfl ?_
  simp only [lf39, lc39]
  simp [*]
attribute [simp] c21_0 c21_1 c21_2 c21_3 c21_4 c21_5 c21_6 c21_7 c21_8 c21_10
theorem c21_L0_u : EC Γ ps 0 J59 σ = EC Γ ps 0 (.seq (.reg false c21_2) (.seq (.cond (.t 9) .skip (.seq (.trim []) (.exit 0))) (.seq (.blk 1 (.seq (.reg false c21_3) (.seq (.seq (.reg true c21_4) (.cond (.t 44) (.seq (.reg false c21_5) (.seq (.trim [2]) .ret)) .skip)) (.seq (.reg false c21_6) (.cond (.t 65) (.seq (.reg false c21_7) (.seq (.trim [2]) .ret)) .skip))))) (.reg false c21_8)))) σ := rfl
attribute [simp ↓] c21_L0_u
def jg (k0 : Ji) (k1 : (FS Jm)) (k2 : Int) (s : Int) : Option (LR Int (Bool ⊕ Unit)) := match s with
 | s0 => (if (ilt s0 k2) = true then (J3 (fget k1 s0) fun v4 => (J3 (gOpt (band (bnot (bnot (Kx v4.Y))) (igt s0 0)) (fget k0.Rows (isub .i64 s0 1))) fun v8 => (J3 (gOpt (bnot (bor (bor (bnot (Kx v4.Y)) (band (igt s0 0) (ile v4.Y (((v8.getD (⟨0, (FS.nil : (FS Jf))⟩ : Jm))).Y)))) (ieq (flen v4.Runs) 0))) (Jc6 v4.Runs)) fun v11 => (if (bor (bor (bor (bnot (Kx v4.Y)) (band (igt s0 0) (ile v4.Y (((v8.getD (⟨0, (FS.nil : (FS Jf))⟩ : Jm))).Y)))) (ieq (flen v4.Runs) 0)) (bnot (v11.getD false))) = true then some (.dn (.inl false))
 else (J3 (fget v4.Runs 0) fun v15 => (J3 (gOpt (bnot (bnot (Kx v15.From))) (fget v4.Runs (isub .i64 (flen v4.Runs) 1))) fun v19 => (if (bor (bnot (Kx v15.From)) (bnot (Kx (isub .i64 (((v19.getD (⟨0, 0⟩ : Jf))).To) 1)))) = true then some (.dn (.inl false))
 else some (.nx (iadd .i64 s0 1)))))))))
 else some (.dn (.inr ())))
def Zh (k0 : Ji) (k1 : (FS Jm)) (k2 : Int) (s : Int) : St := match s with
 | s0 => ⟨fr [(1, .ptr 1 0 0), (6, encF Jg k1), (7, .int .i64 k2), (8, .int .i64 s0)], hl [(1, .box 0 [encF Jg k0.Rows])]⟩
def Z9 (k0 : Ji) (k1 : (FS Jm)) (k2 : Int) (x : (Bool ⊕ Unit)) : LE × St := match x with
 | .inl x => (.ret, ⟨fr [(2, .bool x)], hl []⟩)
 | .inr x => (.exit 0, ⟨fr [], hl []⟩)
theorem Jjj {k0} {k1} {k2} {s} {r} (h : Ky (jg k0 k1 k2) bigN s = some r) : LK env [] 0 [1, 6, 7, 8] J59 (some (Zh k0 k1 k2 s)) = some (Z9 k0 k1 k2 r) := Kt (st := Zh k0 k1 k2) (out := Z9 k0 k1 k2) (by
 clear h s r
 rintro s0 x h
 simp only [jg] at h
 rcases ifC h with ⟨c1, h⟩ | ⟨c1, h⟩
 ·obtain ⟨v4, h3, h⟩ := oS h
  have f2 := Kc (e := Jg) h3
  have f5 := Jgp v4.Y
  obtain ⟨v8, h7, h⟩ := oS h
  have f6 := fun (q0 : (bnot (Kx v4.Y)) = false) (q1 : (igt s0 0) = true) => Kc (e := Jg) (Kb (⟨0, (FS.nil : (FS Jf))⟩ : Jm) h7 (z6 (Qo q0) q1))
  obtain ⟨v11, h10, h⟩ := oS h
  have f9 := fun (q0 : (bor (bor (bnot (Kx v4.Y)) (band (igt s0 0) (ile v4.Y (((v8.getD (⟨0, (FS.nil : (FS Jf))⟩ : Jm))).Y)))) (ieq (flen v4.Runs) 0)) = false) => Ji1 (Kb false h10 (Qo q0))
  rcases ifC h with ⟨c12, h⟩ | ⟨c12, h⟩
  ·cases h
   simp only [Zh, Z9]
   rw [Jn]
   rcases tof (Kx v4.Y) with a13 | a13
   ·rcases tof (igt s0 0) with a14 | a14
    ·rcases tof (ile v4.Y (((v8.getD (⟨0, (FS.nil : (FS Jf))⟩ : Jm))).Y)) with a15 | a15
     ·simp [*]
     ·rcases tof (ieq (flen v4.Runs) 0) with a16 | a16
      ·simp [*]
      ·rcases tof (v11.getD false) with a17 | a17
       ·simp [c1, a13, a14, a15, a16, a17] at c12
       ·simp [*]
    ·rcases tof (ieq (flen v4.Runs) 0) with a18 | a18
     ·simp [*]
     ·rcases tof (v11.getD false) with a19 | a19
      ·simp [c1, a13, a14, a18, a19] at c12
      ·simp [*]
   ·simp [*]
  ·obtain ⟨v22, h21, h⟩ := oS h
   have f20 := Kc (e := J9) h21
   have f23 := Jgp v22.From
   obtain ⟨v26, h25, h⟩ := oS h
   have f24 := fun (q0 : (bnot (Kx v22.From)) = false) => Kc (e := J9) (Kb (⟨0, 0⟩ : Jf) h25 (Qo q0))
   have f27 := Jgp (isub .i64 (((v26.getD (⟨0, 0⟩ : Jf))).To) 1)
   rcases ifC h with ⟨c28, h⟩ | ⟨c28, h⟩
   ·cases h
    simp only [Zh, Z9]
    rw [Jn]
    rcases tof (Kx v4.Y) with a29 | a29
    ·rcases tof (igt s0 0) with a30 | a30
     ·rcases tof (ile v4.Y (((v8.getD (⟨0, (FS.nil : (FS Jf))⟩ : Jm))).Y)) with a31 | a31
      ·simp [c1, a29, a30, a31] at c12
      ·rcases tof (ieq (flen v4.Runs) 0) with a32 | a32
       ·simp [c1, a29, a30, a31, a32] at c12
       ·rcases tof (v11.getD false) with a33 | a33
        ·rcases tof (Kx v22.From) with a34 | a34
         ·rcases tof (Kx (isub .i64 (((v26.getD (⟨0, 0⟩ : Jf))).To) 1)) with a35 | a35
          ·simp [c1, a29, a30, a31, a32, a33, a34, a35] at c28
          ·simp [*]
         ·simp [*]
        ·simp [c1, a29, a30, a31, a32, a33] at c12
     ·rcases tof (ieq (flen v4.Runs) 0) with a36 | a36
      ·simp [c1, a29, a30, a36] at c12
      ·rcases tof (v11.getD false) with a37 | a37
       ·rcases tof (Kx v22.From) with a38 | a38
        ·rcases tof (Kx (isub .i64 (((v26.getD (⟨0, 0⟩ : Jf))).To) 1)) with a39 | a39
         ·simp [c1, a29, a30, a36, a37, a38, a39] at c28
         ·simp [*]
        ·simp [*]
       ·simp [c1, a29, a30, a36, a37] at c12
    ·simp [c1, a29] at c12
   ·cases h
    simp only [Zh]
    rw [Jn]
    rcases tof (Kx v4.Y) with a40 | a40
    ·rcases tof (igt s0 0) with a41 | a41
     ·rcases tof (ile v4.Y (((v8.getD (⟨0, (FS.nil : (FS Jf))⟩ : Jm))).Y)) with a42 | a42
      ·simp [c1, a40, a41, a42] at c12
      ·rcases tof (ieq (flen v4.Runs) 0) with a43 | a43
       ·simp [c1, a40, a41, a42, a43] at c12
       ·rcases tof (v11.getD false) with a44 | a44
        ·rcases tof (Kx v22.From) with a45 | a45
         ·rcases tof (Kx (isub .i64 (((v26.getD (⟨0, 0⟩ : Jf))).To) 1)) with a46 | a46
          ·simp [*]
          ·simp [c1, a40, a41, a42, a43, a44, a45, a46] at c28
         ·simp [c1, a40, a41, a42, a43, a44, a45] at c28
        ·simp [c1, a40, a41, a42, a43, a44] at c12
     ·rcases tof (ieq (flen v4.Runs) 0) with a47 | a47
      ·simp [c1, a40, a41, a47] at c12
      ·rcases tof (v11.getD false) with a48 | a48
       ·rcases tof (Kx v22.From) with a49 | a49
        ·rcases tof (Kx (isub .i64 (((v26.getD (⟨0, 0⟩ : Jf))).To) 1)) with a50 | a50
         ·simp [*]
         ·simp [c1, a40, a41, a47, a48, a49, a50] at c28
        ·simp [c1, a40, a41, a47, a48, a49] at c28
       ·simp [c1, a40, a41, a47, a48] at c12
    ·simp [c1, a40] at c12
 ·cases h
  simp only [Zh, Z9]
  rw [Jn]
  simp [*]) bigN s r h
def Jbx (p0 : Ji) : Option Bool := (J3 (Ky (jg p0 p0.Rows (flen p0.Rows)) bigN 0) fun v23 => (match v23 with
 | .inl v23x => some v23x
 | .inr v23x => some true))
theorem Jhd {p0} {r} (h : Jbx p0 = some r) : FC env 21 [.agg [encF Jg p0.Rows]] none = some (.bool r, fun _ => none) := by
 unfold Jbx at h
 obtain ⟨v52, h51, h⟩ := oS h
 have f53 := Jjj h51
 cases v52 with
 | inl v52x =>
  try simp only at h
  simp only [Zh, Z9, J5] at f53
  try simp only [Jj, Jk, Jq, Jv, Jt, Jx, Jw, Ju] at f53
  cases h
  refine J4 (lf := lf21) rfl rfl rfl ?_
  simp only [lf21, lc21]
  simp [*]
 | inr v52x =>
  try simp only at h
  simp only [Zh, Z9, J5] at f53
  try simp only [Jj, Jk, Jq, Jv, Jt, Jx, Jw, Ju] at f53
  cases h
  refine J4 (lf := lf21) rfl rfl rfl ?_
  simp only [lf21, lc21]
  simp [*]
attribute [simp] c22_0 c22_1
def jy (p0 : Ja) : Bool := (band (band (band (ige p0.X (-4096)) (ilt p0.X 4096)) (ige p0.Y (-4096))) (ilt p0.Y 4096))
def t_toolpath_ok (p0 : Ja) : Option Bool := some (jy p0)
theorem Jme (p0 : Ja) : FC env 22 [.agg [.int .i64 p0.X, .int .i64 p0.Y]] none = some (.bool (jy p0), fun _ => none) := by
 unfold jy
 refine J4 (lf := lf22) rfl rfl rfl ?_
 simp only [lf22, lc22]
 rcases tof (ige p0.X (-4096)) with a1 | a1 <;> rcases tof (ilt p0.X 4096) with a2 | a2 <;> rcases tof (ige p0.Y (-4096)) with a3 | a3 <;> simp [*]
attribute [simp] c40_0 c40_1
def jd (p0 : Ja) : Bool := (band (band (band (ige p0.X (-4096)) (ilt p0.X 4096)) (ige p0.Y (-4096))) (ilt p0.Y 4096))
def t_track_onGrid (p0 : Ja) : Option Bool := some (jd p0)
theorem Jlu (p0 : Ja) : FC env 40 [.agg [.int .i64 p0.X, .int .i64 p0.Y]] none = some (.bool (jd p0), fun _ => none) := by
 unfold jd
 refine J4 (lf := lf40) rfl rfl rfl ?_
 simp only [lf40, lc40]
 rcases tof (ige p0.X (-4096)) with a1 | a1 <;> rcases tof (ilt p0.X 4096) with a2 | a2 <;> rcases tof (ige p0.Y (-4096)) with a3 | a3 <;> simp [*]
attribute [simp] c41_0 c41_1 c41_2
def Yi (p0 : Ja) (p1 : Ja) : Bool := (ieq (iadd .i64 (imul .i64 (isub .i64 p0.X p1.X) (isub .i64 p0.X p1.X)) (imul .i64 (isub .i64 p0.Y p1.Y) (isub .i64 p0.Y p1.Y))) 1)
def Jv8 (p0 : Ja) (p1 : Ja) : Option Bool := some (Yi p0 p1)
theorem Je5 (p0 : Ja) (p1 : Ja) : FC env 41 [.agg [.int .i64 p0.X, .int .i64 p0.Y], .agg [.int .i64 p1.X, .int .i64 p1.Y]] none = some (.bool (Yi p0 p1), fun _ => none) := by
 unfold Yi
 refine J4 (lf := lf41) rfl rfl rfl ?_
 simp only [lf41, lc41]
 simp
attribute [simp] c23_0 c23_1 c23_2 c23_3 c23_4 c23_5 c23_6 c23_7 c23_8 c23_9 c23_11
theorem c23_L0_u : EC Γ ps 0 J5t σ = EC Γ ps 0 (.seq (.reg false c23_5) (.seq (.cond (.t 29) .skip (.seq (.trim [1, 3]) (.exit 0))) (.seq (.blk 1 (.seq (.reg false c23_6) (.seq (.reg true c23_7) (.cond (.t 50) (.seq (.reg false c23_8) (.seq (.trim [2]) .ret)) .skip)))) (.reg false c23_9)))) σ := rfl
attribute [simp ↓] c23_L0_u
def z3 (k0 : Jd) (k1 : Int) (k2 : (FS Ja)) (k3 : Int) (s : Int) : Option (LR Int (Bool ⊕ Unit)) := match s with
 | s0 => (if (ilt s0 k3) = true then (J3 (fget k2 s0) fun v5 => (J3 (gOpt (band (bnot (bnot (jd v5))) (igt s0 0)) (fget k0.Cells (isub .i64 s0 1))) fun v9 => (if (bor (bnot (jd v5)) (band (igt s0 0) (bnot (Yi (v9.getD (⟨0, 0⟩ : Ja)) v5)))) = true then some (.dn (.inl false))
 else some (.nx (iadd .i64 s0 1)))))
 else some (.dn (.inr ())))
def j9 (k0 : Jd) (k1 : Int) (k2 : (FS Ja)) (k3 : Int) (s : Int) : St := match s with
 | s0 => ⟨fr [(1, .ptr 1 0 0), (3, .int .i64 k1), (26, encF Je k2), (27, .int .i64 k3), (28, .int .i64 s0)], hl [(1, .box 0 [.int .i64 k0.Role, .bool k0.Closed, encF Je k0.Cells])]⟩
def zx (k0 : Jd) (k1 : Int) (k2 : (FS Ja)) (k3 : Int) (x : (Bool ⊕ Unit)) : LE × St := match x with
 | .inl x => (.ret, ⟨fr [(2, .bool x)], hl []⟩)
 | .inr x => (.exit 0, ⟨fr [(1, .ptr 1 0 0), (3, .int .i64 k1)], hl [(1, .box 0 [.int .i64 k0.Role, .bool k0.Closed, encF Je k0.Cells])]⟩)
theorem Jj8 {k0} {k1} {k2} {k3} {s} {r} (h : Ky (z3 k0 k1 k2 k3) bigN s = some r) : LK env [] 0 [1, 3, 26, 27, 28] J5t (some (j9 k0 k1 k2 k3 s)) = some (zx k0 k1 k2 k3 r) := Kt (st := j9 k0 k1 k2 k3) (out := zx k0 k1 k2 k3) (by
 clear h s r
 rintro s0 x h
 simp only [z3] at h
 rcases ifC h with ⟨c6, h⟩ | ⟨c6, h⟩
 ·obtain ⟨v9, h8, h⟩ := oS h
  have f7 := Kc (e := Je) h8
  have f10 := Jlu v9
  obtain ⟨v13, h12, h⟩ := oS h
  have f11 := fun (q0 : (bnot (jd v9)) = false) (q1 : (igt s0 0) = true) => Kc (e := Je) (Kb (⟨0, 0⟩ : Ja) h12 (z6 (Qo q0) q1))
  have f14 := Je5 (v13.getD (⟨0, 0⟩ : Ja)) v9
  rcases ifC h with ⟨c15, h⟩ | ⟨c15, h⟩
  ·cases h
   simp only [j9, zx]
   rw [Jn]
   rcases tof (jd v9) with a16 | a16 <;> rcases tof (igt s0 0) with a17 | a17 <;> rcases tof (Yi (v13.getD (⟨0, 0⟩ : Ja)) v9) with a18 | a18 <;> (try (simp [c6, a16, a17, a18] at c15; done)) <;> simp [*]
  ·cases h
   simp only [j9]
   rw [Jn]
   rcases tof (jd v9) with a19 | a19 <;> rcases tof (igt s0 0) with a20 | a20 <;> rcases tof (Yi (v13.getD (⟨0, 0⟩ : Ja)) v9) with a21 | a21 <;> (try (simp [c6, a19, a20, a21] at c15; done)) <;> simp [*]
 ·cases h
  simp only [j9, zx]
  rw [Jn]
  simp [*]) bigN s r h
def Ja0 (p0 : Jd) : Option Bool := (if (bor (bor (bor (ilt p0.Role 1) (igt p0.Role 7)) (ilt (flen p0.Cells) 1)) (igt (flen p0.Cells) 65536)) = true then some false
 else (J3 (Ky (z3 p0 (flen p0.Cells) p0.Cells (flen p0.Cells)) bigN 0) fun v13 => (match v13 with
 | .inl v13x => some v13x
 | .inr v13x => (J3 (gOpt (bnot (bor (bnot p0.Closed) (ieq (flen p0.Cells) 1))) (fget p0.Cells (isub .i64 (flen p0.Cells) 1))) fun v17 => (J3 (gOpt (bnot (bor (bnot p0.Closed) (ieq (flen p0.Cells) 1))) (fget p0.Cells 0)) fun v20 => some (bor (bor (bnot p0.Closed) (ieq (flen p0.Cells) 1)) (Yi (v17.getD (⟨0, 0⟩ : Ja)) (v20.getD (⟨0, 0⟩ : Ja)))))))))
theorem Jch {p0} {r} (h : Ja0 p0 = some r) : FC env 23 [.agg [.int .i64 p0.Role, .bool p0.Closed, encF Je p0.Cells]] none = some (.bool r, fun _ => none) := by
 unfold Ja0 at h
 rcases ifC h with ⟨c1, h⟩ | ⟨c1, h⟩
 ·cases h
  refine J4 (lf := lf23) rfl rfl rfl ?_
  simp only [lf23, lc23]
  rcases tof (ilt p0.Role 1) with a2 | a2 <;> rcases tof (igt p0.Role 7) with a3 | a3 <;> rcases tof (ilt (flen p0.Cells) 1) with a4 | a4 <;> rcases tof (igt (flen p0.Cells) 65536) with a5 | a5 <;> (try (simp [a2, a3, a4, a5] at c1; done)) <;> simp [*]
 ·obtain ⟨v23, h22, h⟩ := oS h
  have f24 := Jj8 h22
  cases v23 with
  | inl v23x =>
   try simp only at h
   simp only [j9, zx, J5] at f24
   try simp only [Jj, Jk, Jq, Jv, Jt, Jx, Jw, Ju] at f24
   cases h
   refine J4 (lf := lf23) rfl rfl rfl ?_
   simp only [lf23, lc23]
   rcases tof (ilt p0.Role 1) with a26 | a26 <;> rcases tof (igt p0.Role 7) with a27 | a27 <;> rcases tof (ilt (flen p0.Cells) 1) with a28 | a28 <;> rcases tof (igt (flen p0.Cells) 65536) with a29 | a29 <;> (try (simp [a26, a27, a28, a29] at c1; done)) <;> (try simp only [a26, a27, a28, a29] at f24) <;> simp [*]
  | inr v23x =>
   try simp only at h
   simp only [j9, zx, J5] at f24
   try simp only [Jj, Jk, Jq, Jv, Jt, Jx, Jw, Ju] at f24
   obtain ⟨v33, h32, h⟩ := oS h
   have f31 := fun (q0 : (bor (bnot p0.Closed) (ieq (flen p0.Cells) 1)) = false) => Kc (e := Je) (Kb (⟨0, 0⟩ : Ja) h32 (Qo q0))
   obtain ⟨v36, h35, h⟩ := oS h
   have f34 := fun (q0 : (bor (bnot p0.Closed) (ieq (flen p0.Cells) 1)) = false) => Kc (e := Je) (Kb (⟨0, 0⟩ : Ja) h35 (Qo q0))
   have f37 := Je5 (v33.getD (⟨0, 0⟩ : Ja)) (v36.getD (⟨0, 0⟩ : Ja))
   cases h
   refine J4 (lf := lf23) rfl rfl rfl ?_
   simp only [lf23, lc23]
   rcases tof (ilt p0.Role 1) with a38 | a38
   ·simp [a38] at c1
   ·rcases tof (igt p0.Role 7) with a39 | a39
    ·simp [a38, a39] at c1
    ·rcases tof (ilt (flen p0.Cells) 1) with a40 | a40
     ·simp [a38, a39, a40] at c1
     ·rcases tof (igt (flen p0.Cells) 65536) with a41 | a41
      ·simp [a38, a39, a40, a41] at c1
      ·rcases tof p0.Closed with a42 | a42
       ·rcases tof (ieq (flen p0.Cells) 1) with a43 | a43
        ·try simp only [a42] at f24 f31 f34 f37
         try simp only [a38, a39, a40, a41, a42, a43] at f24
         simp [*]
        ·try simp only [a42] at f24 f31 f34 f37
         try simp only [a38, a39, a40, a41, a42, a43] at f24
         simp [*]
       ·try simp only [a42] at f24 f31 f34 f37
        try simp only [a38, a39, a40, a41, a42] at f24
        simp [*]
attribute [simp] c24_0 c24_1
def J0 (p0 : Jo) (p1 : Kj) : Option Jo := (if fits 64 ((flen p0.list.ops) + 1) = true then some (⟨(⟨(Y0 p0.list.ops p1)⟩ : Kk), p0.r, p0.s, p0.nozzle⟩ : Jo) else none)
theorem Kw {p0 : Jo} {p1 : Kj} (e000 : p0.list.ops = FS.nil) {r} (h : J0 p0 p1 = some r) : FC env 24 [.ptr 0 0 0, .agg [.int .i64 p1.Kind, .int .i64 p1.Role, .int .i64 p1.Layer, .int .i64 p1.Z, .int .i64 p1.Speed, encF Je p1.Cells]] (some (hl [(0, .box 0 [.nils, encF Jg p0.r.Rows, .int .i64 p0.s.Pitch, .int .i64 p0.s.Height, .int .i64 p0.s.Walls, .int .i64 p0.s.Top, .int .i64 p0.s.Bottom, .int .i64 p0.s.Pattern, .int .i64 p0.s.Spacing, .bool p0.s.Support, .int .i64 p0.s.Reach, .int .i64 p0.s.Gap, .int .i64 p0.s.Brim, .int .i64 p0.s.Skirt, .int .i64 p0.s.Drop, .int .i64 p0.s.Feed, .int .i64 p0.s.Travel, .int .i64 p0.s.Retract, .int .i64 p0.s.MinTime, .int .i64 p0.s.MinFeed, .int .i64 p0.s.Nozzle, .int .i64 p0.s.Bed, .int .i64 p0.nozzle.X, .int .i64 p0.nozzle.Y])], 0)) = some (.tup [], hl [(0, .box 0 [.arr 1000000 0 0 r.list.ops.l.length, encF Jg r.r.Rows, .int .i64 r.s.Pitch, .int .i64 r.s.Height, .int .i64 r.s.Walls, .int .i64 r.s.Top, .int .i64 r.s.Bottom, .int .i64 r.s.Pattern, .int .i64 r.s.Spacing, .bool r.s.Support, .int .i64 r.s.Reach, .int .i64 r.s.Gap, .int .i64 r.s.Brim, .int .i64 r.s.Skirt, .int .i64 r.s.Drop, .int .i64 r.s.Feed, .int .i64 r.s.Travel, .int .i64 r.s.Retract, .int .i64 r.s.MinTime, .int .i64 r.s.MinFeed, .int .i64 r.s.Nozzle, .int .i64 r.s.Bed, .int .i64 r.nozzle.X, .int .i64 r.nozzle.Y]), (1000000, .arr 0 6 40 (Jp J2 r.list.ops.l) false)]) ∧ ∃ l, r.list.ops = FS.lst l := by
 unfold J0 at h
 simp only [e000, Jr] at h
 obtain ⟨h2, h⟩ := ifS h
 have f1 := fun H g0 hg y => @Jbw _ _ J2 _ p1 64 h2 (by decide) H g0 40 y hg
 simp only [J2] at f1
 cases h
 refine ⟨?_, by first | exact ⟨_, rfl⟩ | exact ⟨_, by assumption⟩⟩
 refine j7 (lf := lf24) rfl rfl rfl ?_
 simp only [lf24, lc24]
 simp [*]
theorem J1 {p0 : Jo} {p1 : Kj} {le000 : List Kj} (e000 : p0.list.ops = FS.lst le000) {r} (h : J0 p0 p1 = some r) : FC env 24 [.ptr 0 0 0, .agg [.int .i64 p1.Kind, .int .i64 p1.Role, .int .i64 p1.Layer, .int .i64 p1.Z, .int .i64 p1.Speed, encF Je p1.Cells]] (some (hl [(0, .box 0 [.arr 1000000 0 0 p0.list.ops.l.length, encF Jg p0.r.Rows, .int .i64 p0.s.Pitch, .int .i64 p0.s.Height, .int .i64 p0.s.Walls, .int .i64 p0.s.Top, .int .i64 p0.s.Bottom, .int .i64 p0.s.Pattern, .int .i64 p0.s.Spacing, .bool p0.s.Support, .int .i64 p0.s.Reach, .int .i64 p0.s.Gap, .int .i64 p0.s.Brim, .int .i64 p0.s.Skirt, .int .i64 p0.s.Drop, .int .i64 p0.s.Feed, .int .i64 p0.s.Travel, .int .i64 p0.s.Retract, .int .i64 p0.s.MinTime, .int .i64 p0.s.MinFeed, .int .i64 p0.s.Nozzle, .int .i64 p0.s.Bed, .int .i64 p0.nozzle.X, .int .i64 p0.nozzle.Y]), (1000000, .arr 0 6 40 (Jp J2 p0.list.ops.l) false)], 0)) = some (.tup [], hl [(0, .box 0 [.arr 1000000 0 0 r.list.ops.l.length, encF Jg r.r.Rows, .int .i64 r.s.Pitch, .int .i64 r.s.Height, .int .i64 r.s.Walls, .int .i64 r.s.Top, .int .i64 r.s.Bottom, .int .i64 r.s.Pattern, .int .i64 r.s.Spacing, .bool r.s.Support, .int .i64 r.s.Reach, .int .i64 r.s.Gap, .int .i64 r.s.Brim, .int .i64 r.s.Skirt, .int .i64 r.s.Drop, .int .i64 r.s.Feed, .int .i64 r.s.Travel, .int .i64 r.s.Retract, .int .i64 r.s.MinTime, .int .i64 r.s.MinFeed, .int .i64 r.s.Nozzle, .int .i64 r.s.Bed, .int .i64 r.nozzle.X, .int .i64 r.nozzle.Y]), (1000000, .arr 0 6 40 (Jp J2 r.list.ops.l) false)]) ∧ ∃ l, r.list.ops = FS.lst l := by
 unfold J0 at h
 simp only [e000, Jr] at h
 obtain ⟨h2, h⟩ := ifS h
 have f1 := fun g0 H y => @Yn _ _ J2 _ (FS.lst le000) p1 64 h2 (by decide) g0 H 1000000 0 40 y
 simp only [J2] at f1
 cases h
 refine ⟨?_, by first | exact ⟨_, rfl⟩ | exact ⟨_, by assumption⟩⟩
 refine j7 (lf := lf24) rfl rfl rfl ?_
 simp only [lf24, lc24]
 simp [*]
attribute [simp] c58_0 c58_1
def Qz (p0 : Ja) : Bool := (band (band (band (ige p0.X (-4096)) (ilt p0.X 4096)) (ige p0.Y (-4096))) (ilt p0.Y 4096))
def t_order_onGrid (p0 : Ja) : Option Bool := some (Qz p0)
theorem Jg4 (p0 : Ja) : FC env 58 [.agg [.int .i64 p0.X, .int .i64 p0.Y]] none = some (.bool (Qz p0), fun _ => none) := by
 unfold Qz
 refine J4 (lf := lf58) rfl rfl rfl ?_
 simp only [lf58, lc58]
 rcases tof (ige p0.X (-4096)) with a1 | a1 <;> rcases tof (ilt p0.X 4096) with a2 | a2 <;> rcases tof (ige p0.Y (-4096)) with a3 | a3 <;> simp [*]
attribute [simp] c73_0 c73_1
def Jdi (p0 : Jd) : Option Jd := (if fits 16 ((flen (flit ([] : List Ja))) + (flen p0.Cells)) = true then some (⟨p0.Role, p0.Closed, (fapp (flit ([] : List Ja)) p0.Cells)⟩ : Jd) else none)
theorem Jg7 {p0} {r} (h : Jdi p0 = some r) : FC env 73 [.agg [.int .i64 p0.Role, .bool p0.Closed, encF Je p0.Cells]] none = some (.agg [.int .i64 r.Role, .bool r.Closed, encF Je r.Cells], fun _ => none) := by
 unfold Jdi at h
 have f1 : ∀ (H : Heap) (g0 : Nat), bslV H g0 0 2 27 (some []) = some (.arr g0 (Kq H g0) 0 (flit ([] : List Ja)).l.length, upd H g0 (some (.arr (Kq H g0) 2 27 (Jp Je (flit ([] : List Ja)).l) false))) := fun H g0 => rfl
 obtain ⟨h3, h⟩ := ifS h
 have f2 := fun g0 H => @Jci _ _ Je _ (flit ([] : List Ja)) p0.Cells 16 h3 (by decide) g0 H 7 0 27
 cases h
 refine J4 (lf := lf73) rfl rfl rfl ?_
 simp only [lf73, lc73]
 simp [*, Qm (e := Je) (el := 27) (fz := false)]
attribute [simp] c59_0 c59_1 c59_2 c59_3 c59_4 c59_5 c59_6 c59_7 c59_9
theorem c59_L0_u : EC Γ ps 0 J30 σ = EC Γ ps 0 (.seq (.reg false c59_3) (.seq (.cond (.t 9) .skip (.seq (.trim [3]) (.exit 0))) (.seq (.blk 1 (.seq (.reg false c59_4) (.seq (.reg false c59_5) (.cond (.t 13) (.reg false c59_6) .skip)))) (.reg false c59_7)))) σ := rfl
attribute [simp ↓] c59_L0_u
def Jbi (k0 : (FS Jd)) (k1 : Int) (s : ((FS Jd) × Int)) : Option (LR ((FS Jd) × Int) (FS Jd)) := match s with
 | (s0, s1) => (if (ilt s1 k1) = true then (J3 (fget k0 s1) fun v4 => (J3 (Ja0 v4) fun v7 => (if v7 = true then (J3 (Jdi v4) fun v11 => (if fits 40 ((flen s0) + 1) = true then some (.nx ((Y0 s0 v11), (iadd .i64 s1 1))) else none))
 else some (.nx (s0, (iadd .i64 s1 1))))))
 else some (.dn s0))
def Y2 (k0 : (FS Jd)) (k1 : Int) (s : ((FS Jd) × Int)) : St := match s with
 | (s0, s1) => (zo s0 (⟨fr [(3, .nils), (6, encF Jh k0), (7, .int .i64 k1), (8, .int .i64 s1)], hl []⟩)
  (fun l0 => ⟨fr [(3, .arr 3 0 0 l0.l.length), (6, encF Jh k0), (7, .int .i64 k1), (8, .int .i64 s1)], hl [(3, .arr 0 3 50 (Jp Jh l0.l) false)]⟩))
def Jay (k0 : (FS Jd)) (k1 : Int) (x : (FS Jd)) : LE × St := (zo x (.exit 0, ⟨fr [(3, .nils)], hl []⟩)
  (fun l0 => (.exit 0, ⟨fr [(3, .arr 3 0 0 l0.l.length)], hl [(3, .arr 0 3 50 (Jp Jh l0.l) false)]⟩)))
theorem Jkb {k0} {k1} {s} {r} (h : Ky (Jbi k0 k1) bigN s = some r) : LK env [] 0 [3, 6, 7, 8] J30 (some (Y2 k0 k1 s)) = some (Jay k0 k1 r) := Kt (st := Y2 k0 k1) (out := Jay k0 k1) (by
 clear h s r
 rintro ⟨s0, s1⟩ x h
 simp only [Jbi] at h
 cases e2 : s0 with
 | nil =>
  try simp only [e2, Jr] at h
  rcases ifC h with ⟨c3, h⟩ | ⟨c3, h⟩
  ·obtain ⟨v6, h5, h⟩ := oS h
   have f4 := Kc (e := Jh) h5
   obtain ⟨v9, h8, h⟩ := oS h
   have f7 := Jch h8
   rcases ifC h with ⟨c10, h⟩ | ⟨c10, h⟩
   ·obtain ⟨v13, h12, h⟩ := oS h
    have f11 := Jg7 h12
    obtain ⟨h15, h⟩ := ifS h
    have f14 := fun H g0 hg y => @Jbw _ _ Jh _ v13 40 h15 (by decide) H g0 50 y hg
    simp only [Jh] at f14
    cases h
    simp only [Y2, e2]
    rw [Jn]
    simp [*]
   ·cases h
    simp only [Y2, e2]
    rw [Jn]
    simp [*]
  ·cases h
   simp only [Y2, Jay, e2]
   rw [Jn]
   simp [*]
 | lst l1 =>
  try simp only [e2] at h
  rcases ifC h with ⟨c16, h⟩ | ⟨c16, h⟩
  ·obtain ⟨v19, h18, h⟩ := oS h
   have f17 := Kc (e := Jh) h18
   obtain ⟨v22, h21, h⟩ := oS h
   have f20 := Jch h21
   rcases ifC h with ⟨c23, h⟩ | ⟨c23, h⟩
   ·obtain ⟨v26, h25, h⟩ := oS h
    have f24 := Jg7 h25
    obtain ⟨h28, h⟩ := ifS h
    have f27 := fun g0 H y => @Yn _ _ Jh _ (FS.lst l1) v26 40 h28 (by decide) g0 H 3 0 50 y
    simp only [Jh] at f27
    cases h
    simp only [Y2, e2]
    rw [Jn]
    simp [*]
   ·cases h
    simp only [Y2, e2]
    rw [Jn]
    simp [*]
  ·cases h
   simp only [Y2, Jay, e2]
   rw [Jn]
   simp [*]) bigN s r h
def Jdb (p0 : (FS Jd)) : Option (FS Jd) := (J3 (Ky (Jbi p0 (flen p0)) bigN ((FS.nil : (FS Jd)), 0)) fun v15 => some v15)
theorem Jh8 {p0} {r} (h : Jdb p0 = some r) : FC env 59 [encF Jh p0] (some (hl [], 0)) = (zo r (some (.nils, hl []))
  (fun l0 => (some (.arr 700000 0 0 l0.l.length, hl [(700000, .arr 0 3 50 (Jp Jh l0.l) false)])))) := by
 unfold Jdb at h
 obtain ⟨v30, h29, h⟩ := oS h
 have f31 := Jkb h29
 simp only [Y2, Jay, J5] at f31
 cases e34 : v30 with
 | nil =>
  try simp only [e34, Jr] at h
  simp only [e34, Jr, Jj, Jk] at f31
  cases h
  refine j7 (lf := lf59) rfl rfl rfl ?_
  simp only [lf59, lc59]
  simp [*]
  all_goals first | rfl | exact ⟨rfl, rfl⟩
 | lst l33 =>
  try simp only [e34] at h
  simp only [e34, Jr, Jj, Jk] at f31
  cases h
  refine j7 (lf := lf59) rfl rfl rfl ?_
  simp only [lf59, lc59]
  simp [*]
  all_goals first | rfl | exact ⟨rfl, rfl⟩
attribute [simp] c75_0 c75_1
def Km (p0 : Ja) (p1 : Ja) : Int := (iadd .i64 (imax (isub .i64 p0.X p1.X) (isub .i64 p1.X p0.X)) (imax (isub .i64 p0.Y p1.Y) (isub .i64 p1.Y p0.Y)))
def t_order_far (p0 : Ja) (p1 : Ja) : Option Int := some (Km p0 p1)
theorem Zc (p0 : Ja) (p1 : Ja) : FC env 75 [.agg [.int .i64 p0.X, .int .i64 p0.Y], .agg [.int .i64 p1.X, .int .i64 p1.Y]] none = some (.int .i64 (Km p0 p1), fun _ => none) := by
 unfold Km
 refine J4 (lf := lf75) rfl rfl rfl ?_
 simp only [lf75, lc75]
 simp
attribute [simp] c65_0 c65_1
def Jbk (p0 : Jd) : Option (A2 Ja) := (J3 (fget p0.Cells 0) fun v3 => (J3 (fget p0.Cells (isub .i64 (flen p0.Cells) 1)) fun v6 => some (⟨v3, v6⟩ : (A2 Ja))))
theorem Y7 {p0} {r} (h : Jbk p0 = some r) : FC env 65 [.agg [.int .i64 p0.Role, .bool p0.Closed, encF Je p0.Cells]] none = some (.agg [.int .i64 r.a0.X, .int .i64 r.a0.Y, .int .i64 r.a1.X, .int .i64 r.a1.Y], fun _ => none) := by
 unfold Jbk at h
 obtain ⟨v3, h2, h⟩ := oS h
 have f1 := Kc (e := Je) h2
 obtain ⟨v6, h5, h⟩ := oS h
 have f4 := Kc (e := Je) h5
 cases h
 refine J4 (lf := lf65) rfl rfl rfl ?_
 simp only [lf65, lc65]
 simp [*]
attribute [simp] c63_0 c63_1 c63_2 c63_3 c63_4 c63_5 c63_6 c63_7 c63_8 c63_9 J4f J4m J18 Jyg c63_15
theorem c63_L0_u : EC Γ ps 0 Jz9 σ = EC Γ ps 0 (.seq (.reg false c63_8) (.seq (.cond (.t 28) .skip (.seq (.trim [8, 9]) (.exit 0))) (.seq (.blk 1 (.seq (.reg false c63_9) (.seq (.reg false J4f) (.seq (.reg false J4m) (.cond (.t 37) (.reg false J18) .skip))))) (.reg false Jyg)))) σ := rfl
attribute [simp ↓] c63_L0_u
def zr (k0 : Ja) (k1 : (FS Ja)) (k2 : Int) (s : (Int × Int × Int)) : Option (LR (Int × Int × Int) (Int × Int)) := match s with
 | (s0, s1, s2) => (if (ilt s2 k2) = true then (J3 (fget k1 s2) fun v9 => (if (ilt (Km k0 v9) s1) = true then some (.nx (s2, (Km k0 v9), (iadd .i64 s2 1)))
 else some (.nx (s0, s1, (iadd .i64 s2 1)))))
 else some (.dn (s0, s1)))
def zw (k0 : Ja) (k1 : (FS Ja)) (k2 : Int) (s : (Int × Int × Int)) : St := match s with
 | (s0, s1, s2) => ⟨fr [(2, .ptr 2 0 0), (8, .int .i64 s0), (9, .int .i64 s1), (25, encF Je k1), (26, .int .i64 k2), (27, .int .i64 s2)], hl [(2, .box 0 [.int .i64 k0.X, .int .i64 k0.Y])]⟩
def Ja8 (k0 : Ja) (k1 : (FS Ja)) (k2 : Int) (x : (Int × Int)) : LE × St := (.exit 0, ⟨fr [(8, .int .i64 x.1), (9, .int .i64 x.2)], hl []⟩)
theorem Jgg {k0} {k1} {k2} {s} {r} (h : Ky (zr k0 k1 k2) bigN s = some r) : LK env [] 0 [2, 8, 9, 25, 26, 27] Jz9 (some (zw k0 k1 k2 s)) = some (Ja8 k0 k1 k2 r) := Kt (st := zw k0 k1 k2) (out := Ja8 k0 k1 k2) (by
 clear h s r
 rintro ⟨s0, s1, s2⟩ x h
 simp only [zr] at h
 rcases ifC h with ⟨c6, h⟩ | ⟨c6, h⟩
 ·obtain ⟨v9, h8, h⟩ := oS h
  have f7 := Kc (e := Je) h8
  have f10 := Zc k0 v9
  rcases ifC h with ⟨c11, h⟩ | ⟨c11, h⟩
  ·cases h
   simp only [zw]
   rw [Jn]
   simp [*]
  ·cases h
   simp only [zw]
   rw [Jn]
   simp [*]
 ·cases h
  simp only [zw, Ja8]
  rw [Jn]
  simp [*]) bigN s r h
def Jds (p0 : Ja) (p1 : Jd) : Option (Int × Int) := (if p1.Closed = true then (J3 (fget p1.Cells 0) fun v4 => (J3 (Ky (zr p0 p1.Cells (flen p1.Cells)) bigN (0, (Km p0 v4), 0)) fun v13 => some (v13.1, v13.2)))
 else (J3 (Jbk p1) fun v17 => (J3 (fget (flit ([v17.a0, v17.a1] : List Ja)) 0) fun v21 => (J3 (Ky (zr p0 (flit ([v17.a0, v17.a1] : List Ja)) (flen (flit ([v17.a0, v17.a1] : List Ja)))) bigN (0, (Km p0 v21), 0)) fun v24 => some (v24.1, v24.2)))))
theorem Jiy {p0} {p1} {r} (h : Jds p0 p1 = some r) : FC env 63 [.agg [.int .i64 p0.X, .int .i64 p0.Y], .agg [.int .i64 p1.Role, .bool p1.Closed, encF Je p1.Cells]] none = some (.tup [.int .i64 r.1, .int .i64 r.2], fun _ => none) := by
 unfold Jds at h
 rcases ifC h with ⟨c1, h⟩ | ⟨c1, h⟩
 ·obtain ⟨v4, h3, h⟩ := oS h
  have f2 := Kc (e := Je) h3
  have f5 := Zc p0 v4
  obtain ⟨v13, h12, h⟩ := oS h
  have f14 := Jgg h12
  simp only [zw, Ja8, J5] at f14
  try simp only [Jj, Jk, Jq, Jv, Jt, Jx, Jw, Ju] at f14
  cases h
  refine J4 (lf := lf63) rfl rfl rfl ?_
  simp only [lf63, lc63]
  try simp only [c1] at f2 f5 f14
  try simp only [c1] at f14
  simp [*, zb, tupS, jk, Yx, jn, Yw, jl]
 ·obtain ⟨v18, h17, h⟩ := oS h
  have f16 := Y7 h17
  have f19 : ∀ (H : Heap) (g v : Nat), H g = some (.arr v 2 107 [.int .i64 v18.a0.X, .int .i64 v18.a0.Y, .int .i64 v18.a1.X, .int .i64 v18.a1.Y] false) → snap H depth (.arr g v 0 2) = some (encF Je (flit ([v18.a0, v18.a1] : List Ja)), [g]) := fun H g v hg => Qm (e := Je) (x := (flit ([v18.a0, v18.a1] : List Ja))) hg
  obtain ⟨v22, h21, h⟩ := oS h
  have f20 := Kc (e := Je) h21
  have f23 := Zc p0 v22
  obtain ⟨v25, h24, h⟩ := oS h
  have f26 := Jgg h24
  simp only [zw, Ja8, J5] at f26
  try simp only [Jj, Jk, Jq, Jv, Jt, Jx, Jw, Ju] at f26
  cases h
  refine J4 (lf := lf63) rfl rfl rfl ?_
  simp only [lf63, lc63]
  try simp only [c1] at f16 f19 f20 f23 f26
  try simp only [c1] at f26
  simp [*, zb, tupS, jk, Yx, jn, Yw, jl]
attribute [simp] c84_0 c84_1
def Zx (p0 : (FS Ja)) (p1 : Int) : Option (FS Ja) := (J3 (fsl p0 p1 (flen p0)) fun v3 => (J3 (fsl p0 0 p1) fun v6 => (if mkOK 16 0 (flen p0) = true then (if fits 16 ((flen (frep (⟨0, 0⟩ : Ja) 0)) + (flen v3)) = true then (if fits 16 ((flen (fapp (frep (⟨0, 0⟩ : Ja) 0) v3)) + (flen v6)) = true then some (fapp (fapp (frep (⟨0, 0⟩ : Ja) 0) v3) v6) else none) else none) else none)))
theorem Jc1 {p0} {p1} {r} (h : Zx p0 p1 = some r) : FC env 84 [encF Je p0, .int .i64 p1] none = some (encF Je r, fun _ => none) := by
 unfold Zx at h
 obtain ⟨v3, h2, h⟩ := oS h
 have f1 := Ji3 (e := Je) h2
 obtain ⟨v6, h5, h⟩ := oS h
 have f4 := Jrk (e := Je) h5
 obtain ⟨h8, h⟩ := ifS h
 have f7 := fun H g0 hg => @mk_row _ _ Je _ (⟨0, 0⟩ : Ja) 16 _ _ h8 H g0 hg 27
 simp only [Je] at f7
 obtain ⟨h10, h⟩ := ifS h
 have f9 := fun g0 H => @Jci _ _ Je _ (frep (⟨0, 0⟩ : Ja) 0) v3 16 h10 (by decide) g0 H 7 0 27
 obtain ⟨h12, h⟩ := ifS h
 have f11 := fun g0 H => @Jci _ _ Je _ (fapp (frep (⟨0, 0⟩ : Ja) 0) v3) v6 16 h12 (by decide) g0 H 7 (bump 0 (flen v3)) 27
 cases h
 refine J4 (lf := lf84) rfl rfl rfl ?_
 simp only [lf84, lc84]
 simp [*, Qm (e := Je) (el := 27) (fz := false)]
attribute [simp] c78_0 c78_1 c78_2 c78_3 c78_4 c78_5 c78_6 c78_7
def Jdh (p0 : Jd) (p1 : Int) : Option Jd := (J3 (Ja0 p0) fun v3 => (if (bnot v3) = true then some (⟨0, false, (FS.nil : (FS Ja))⟩ : Jd)
 else (if p0.Closed = true then (if ieq (flen p0.Cells) 0 = true then none else (if ieq (flen p0.Cells) 0 = true then none else (J3 (Zx p0.Cells (irem (iadd .i64 (irem p1 (flen p0.Cells)) (flen p0.Cells)) (flen p0.Cells))) fun v10 => some (⟨p0.Role, p0.Closed, v10⟩ : Jd))))
 else (J3 (Zx p0.Cells 0) fun v13 => some (⟨p0.Role, p0.Closed, v13⟩ : Jd)))))
theorem Jlo {p0} {p1} {r} (h : Jdh p0 p1 = some r) : FC env 78 [.agg [.int .i64 p0.Role, .bool p0.Closed, encF Je p0.Cells], .int .i64 p1] none = some (.agg [.int .i64 r.Role, .bool r.Closed, encF Je r.Cells], fun _ => none) := by
 unfold Jdh at h
 obtain ⟨v3, h2, h⟩ := oS h
 have f1 := Jch h2
 rcases ifC h with ⟨c4, h⟩ | ⟨c4, h⟩
 ·cases h
  refine J4 (lf := lf78) rfl rfl rfl ?_
  simp only [lf78, lc78]
  rcases tof v3 with a5 | a5
  ·simp [a5] at c4
  ·simp [*]
 ·rcases ifC h with ⟨c6, h⟩ | ⟨c6, h⟩
  ·obtain ⟨h7, h⟩ := ifN h
   obtain ⟨h8, h⟩ := ifN h
   obtain ⟨v11, h10, h⟩ := oS h
   have f9 := Jc1 h10
   cases h
   refine J4 (lf := lf78) rfl rfl rfl ?_
   simp only [lf78, lc78]
   rcases tof v3 with a12 | a12
   ·try simp only [c6] at f1 f9
    simp [*]
   ·simp [a12] at c4
  ·obtain ⟨v15, h14, h⟩ := oS h
   have f13 := Jc1 h14
   cases h
   refine J4 (lf := lf78) rfl rfl rfl ?_
   simp only [lf78, lc78]
   rcases tof v3 with a16 | a16
   ·try simp only [c6] at f1 f13
    simp [*]
   ·simp [a16] at c4
attribute [simp] c77_0 c77_1 c77_2 c77_3 c77_4 c77_5 c77_7
theorem c77_L0_u : EC Γ ps 0 J1c σ = EC Γ ps 0 (.seq (.seq (.reg false c77_3) (.cond (.t 12) .skip (.seq (.trim [3]) (.exit 0)))) (.seq (.blk 1 (.reg false c77_4)) (.reg false c77_5))) σ := rfl
attribute [simp ↓] c77_L0_u
def Xw (k0 : (FS Ja)) (s : ((FS Ja) × Int)) : Option (LR ((FS Ja) × Int) (FS Ja)) := match s with
 | (s0, s1) => (if (ige s1 0) = true then (J3 (fget k0 s1) fun v6 => (if fits 16 ((flen s0) + 1) = true then some (.nx ((Y0 s0 v6), (isub .i64 s1 1))) else none))
 else some (.dn s0))
def Yd (k0 : (FS Ja)) (s : ((FS Ja) × Int)) : St := match s with
 | (s0, s1) => ⟨fr [(0, encF Je k0), (3, .arr 3 0 0 s0.l.length), (4, .int .i64 s1)], hl [(3, .arr 0 2 27 (Jp Je s0.l) false)]⟩
def Z1 (k0 : (FS Ja)) (x : (FS Ja)) : LE × St := (.exit 0, ⟨fr [(3, .arr 3 0 0 x.l.length)], hl [(3, .arr 0 2 27 (Jp Je x.l) false)]⟩)
theorem Jed {k0} {s} {r} (h : Ky (Xw k0) bigN s = some r) : LK env [] 0 [0, 3, 4] J1c (some (Yd k0 s)) = some (Z1 k0 r) := Kt (st := Yd k0) (out := Z1 k0) (by
 clear h s r
 rintro ⟨s0, s1⟩ x h
 simp only [Xw] at h
 rcases ifC h with ⟨c3, h⟩ | ⟨c3, h⟩
 ·obtain ⟨v6, h5, h⟩ := oS h
  have f4 := Kc (e := Je) h5
  obtain ⟨h8, h⟩ := ifS h
  have f7 := fun g0 H y => @Yn _ _ Je _ s0 v6 16 h8 (by decide) g0 H 3 0 27 y
  simp only [Je] at f7
  cases h
  simp only [Yd]
  rw [Jn]
  simp [*]
 ·cases h
  simp only [Yd, Z1]
  rw [Jn]
  simp [*]) bigN s r h
def jx (p0 : (FS Ja)) : Option (FS Ja) := (if mkOK 16 0 (flen p0) = true then (J3 (Ky (Xw p0) bigN ((frep (⟨0, 0⟩ : Ja) 0), (isub .i64 (flen p0) 1))) fun v10 => some (flst v10)) else none)
theorem Jfc {p0} {r} (h : jx p0 = some r) : FC env 77 [encF Je p0] none = some (encF Je r, fun _ => none) := by
 unfold jx at h
 obtain ⟨h2, h⟩ := ifS h
 have f1 := fun H g0 hg => @mk_row _ _ Je _ (⟨0, 0⟩ : Ja) 16 _ _ h2 H g0 hg 27
 simp only [Je] at f1
 obtain ⟨v10, h9, h⟩ := oS h
 have f11 := Jed h9
 simp only [Yd, Z1, J5] at f11
 try simp only [Jj, Jk, Jq, Jv, Jt, Jx, Jw, Ju] at f11
 cases h
 refine J4 (lf := lf77) rfl rfl rfl ?_
 simp only [lf77, lc77]
 simp [*, Qm (e := Je) (el := 27) (fz := false)]
attribute [simp] c62_0 c62_1 c62_2 c62_3
def Jb5 (p0 : Jd) : Option Jd := (J3 (Ja0 p0) fun v3 => (if (bnot v3) = true then some (⟨0, false, (FS.nil : (FS Ja))⟩ : Jd)
 else (J3 (jx p0.Cells) fun v7 => some (⟨p0.Role, p0.Closed, v7⟩ : Jd))))
theorem Jgm {p0} {r} (h : Jb5 p0 = some r) : FC env 62 [.agg [.int .i64 p0.Role, .bool p0.Closed, encF Je p0.Cells]] none = some (.agg [.int .i64 r.Role, .bool r.Closed, encF Je r.Cells], fun _ => none) := by
 unfold Jb5 at h
 obtain ⟨v3, h2, h⟩ := oS h
 have f1 := Jch h2
 rcases ifC h with ⟨c4, h⟩ | ⟨c4, h⟩
 ·cases h
  refine J4 (lf := lf62) rfl rfl rfl ?_
  simp only [lf62, lc62]
  rcases tof v3 with a5 | a5
  ·simp [a5] at c4
  ·simp [*]
 ·obtain ⟨v8, h7, h⟩ := oS h
  have f6 := Jfc h7
  cases h
  refine J4 (lf := lf62) rfl rfl rfl ?_
  simp only [lf62, lc62]
  rcases tof v3 with a9 | a9
  ·simp [*]
  ·simp [a9] at c4
attribute [simp] c64_0 c64_1 c64_2 c64_3 c64_4 c64_5
def Jc4 (p0 : Jd) (p1 : Int) : Option Jd := (if p0.Closed = true then (J3 (Jdh p0 p1) fun v4 => some v4)
 else (if (ieq p1 1) = true then (J3 (Jb5 p0) fun v8 => some v8)
 else some p0))
theorem Jcs {p0} {p1} {r} (h : Jc4 p0 p1 = some r) : FC env 64 [.agg [.int .i64 p0.Role, .bool p0.Closed, encF Je p0.Cells], .int .i64 p1] none = some (.agg [.int .i64 r.Role, .bool r.Closed, encF Je r.Cells], fun _ => none) := by
 unfold Jc4 at h
 rcases ifC h with ⟨c1, h⟩ | ⟨c1, h⟩
 ·obtain ⟨v4, h3, h⟩ := oS h
  have f2 := Jlo h3
  cases h
  refine J4 (lf := lf64) rfl rfl rfl ?_
  simp only [lf64, lc64]
  try simp only [c1] at f2
  simp [*]
 ·rcases ifC h with ⟨c5, h⟩ | ⟨c5, h⟩
  ·obtain ⟨v8, h7, h⟩ := oS h
   have f6 := Jgm h7
   cases h
   refine J4 (lf := lf64) rfl rfl rfl ?_
   simp only [lf64, lc64]
   try simp only [c1] at f6
   simp [*]
  ·cases h
   refine J4 (lf := lf64) rfl rfl rfl ?_
   simp only [lf64, lc64]
   simp [*]
attribute [simp] c43_0 c43_1 c43_2 c43_3 c43_4 c43_5 c43_6 c43_7 c43_8 c43_9 Jzv J2z Jz2 J5j J1z Jx7 J3o J2k c43_20
theorem c43_L0_u : EC Γ ps 0 Jt7 σ = EC Γ ps 0 (.seq (.reg false c43_8) (.seq (.cond (.t 26) .skip (.seq (.trim [2, 5, 6, 7, 8]) (.exit 2))) (.seq (.blk 3 (.seq (.reg false c43_9) (.seq (.reg false Jzv) (.seq (.reg false J2z) (.cond (.t 42) (.reg false Jz2) .skip))))) (.reg false J5j)))) σ := rfl
theorem c43_L1_u : EC Γ ps 0 J2e σ = EC Γ ps 0 (.seq (.seq (.reg false c43_5) (.cond (.t 22) .skip (.seq (.trim [6]) (.exit 0)))) (.blk 1 (.seq (.reg false c43_6) (.seq (.seq (.reg false c43_7) (.blk 2 (.loop [2, 5, 6, 7, 8, 9, 23, 24, 25] Jt7))) (.seq (.reg false J1z) (.seq (.reg true Jx7) (.seq (.reg false J3o) (.reg false J2k)))))))) σ := rfl
attribute [simp ↓] c43_L0_u c43_L1_u
def zd (k0 : Ja) (k1 : Int) (s : ((FS Jd) × (FS Jd) × Int × Int × Int × Int)) : Option (LR ((FS Jd) × (FS Jd) × Int × Int × Int × Int) ((FS Jd) × (FS Jd) × Int × Int)) := match s with
 | (s0, s1, s2, s3, s4, s5) => (if (ilt s5 k1) = true then (J3 (fget s0 s5) fun v10 => (J3 (Jds k0 v10) fun v14 => (if (bor (ilt s4 0) (ilt v14.2 s4)) = true then some (.nx (s0, s1, s5, v14.1, v14.2, (iadd .i64 s5 1)))
 else some (.nx (s0, s1, s2, s3, s4, (iadd .i64 s5 1))))))
 else some (.dn (s0, s1, s2, s3)))
def Qk (k0 : Ja) (k1 : Int) (s : ((FS Jd) × (FS Jd) × Int × Int × Int × Int)) : St := match s with
 | (s0, s1, s2, s3, s4, s5) => (zo s0 (zo s1 (⟨fr [(2, .ptr 2 0 0), (5, .nils), (6, .nils), (7, .int .i64 s2), (8, .int .i64 s3), (9, .int .i64 s4), (23, .nils), (24, .int .i64 k1), (25, .int .i64 s5)], hl [(2, .box 0 [.int .i64 k0.X, .int .i64 k0.Y])]⟩)
  (fun l1 => ⟨fr [(2, .ptr 2 0 0), (5, .nils), (6, .arr 6 0 0 l1.l.length), (7, .int .i64 s2), (8, .int .i64 s3), (9, .int .i64 s4), (23, .nils), (24, .int .i64 k1), (25, .int .i64 s5)], hl [(2, .box 0 [.int .i64 k0.X, .int .i64 k0.Y]), (6, .arr 0 3 50 (Jp Jh l1.l) false)]⟩))
  (fun l0 => (zo s1 (⟨fr [(2, .ptr 2 0 0), (5, .arr 5 0 0 l0.l.length), (6, .nils), (7, .int .i64 s2), (8, .int .i64 s3), (9, .int .i64 s4), (23, .arr 5 0 0 l0.l.length), (24, .int .i64 k1), (25, .int .i64 s5)], hl [(2, .box 0 [.int .i64 k0.X, .int .i64 k0.Y]), (5, .arr 0 3 50 (Jp Jh l0.l) false)]⟩)
  (fun l1 => ⟨fr [(2, .ptr 2 0 0), (5, .arr 5 0 0 l0.l.length), (6, .arr 6 0 0 l1.l.length), (7, .int .i64 s2), (8, .int .i64 s3), (9, .int .i64 s4), (23, .arr 5 0 0 l0.l.length), (24, .int .i64 k1), (25, .int .i64 s5)], hl [(2, .box 0 [.int .i64 k0.X, .int .i64 k0.Y]), (5, .arr 0 3 50 (Jp Jh l0.l) false), (6, .arr 0 3 50 (Jp Jh l1.l) false)]⟩))))
def Yq (k0 : Ja) (k1 : Int) (x : ((FS Jd) × (FS Jd) × Int × Int)) : LE × St := (zo x.1 (zo x.2.1 (.exit 2, ⟨fr [(2, .ptr 2 0 0), (5, .nils), (6, .nils), (7, .int .i64 x.2.2.1), (8, .int .i64 x.2.2.2)], hl [(2, .box 0 [.int .i64 k0.X, .int .i64 k0.Y])]⟩)
  (fun l1 => (.exit 2, ⟨fr [(2, .ptr 2 0 0), (5, .nils), (6, .arr 6 0 0 l1.l.length), (7, .int .i64 x.2.2.1), (8, .int .i64 x.2.2.2)], hl [(2, .box 0 [.int .i64 k0.X, .int .i64 k0.Y]), (6, .arr 0 3 50 (Jp Jh l1.l) false)]⟩)))
  (fun l0 => (zo x.2.1 (.exit 2, ⟨fr [(2, .ptr 2 0 0), (5, .arr 5 0 0 l0.l.length), (6, .nils), (7, .int .i64 x.2.2.1), (8, .int .i64 x.2.2.2)], hl [(2, .box 0 [.int .i64 k0.X, .int .i64 k0.Y]), (5, .arr 0 3 50 (Jp Jh l0.l) false)]⟩)
  (fun l1 => (.exit 2, ⟨fr [(2, .ptr 2 0 0), (5, .arr 5 0 0 l0.l.length), (6, .arr 6 0 0 l1.l.length), (7, .int .i64 x.2.2.1), (8, .int .i64 x.2.2.2)], hl [(2, .box 0 [.int .i64 k0.X, .int .i64 k0.Y]), (5, .arr 0 3 50 (Jp Jh l0.l) false), (6, .arr 0 3 50 (Jp Jh l1.l) false)]⟩)))))
theorem Je0 {k0} {k1} {s} {r} (h : Ky (zd k0 k1) bigN s = some r) : LK env [] 0 [2, 5, 6, 7, 8, 9, 23, 24, 25] Jt7 (some (Qk k0 k1 s)) = some (Yq k0 k1 r) := Kt (st := Qk k0 k1) (out := Yq k0 k1) (by
 clear h s r
 rintro ⟨s0, s1, s2, s3, s4, s5⟩ x h
 simp only [zd] at h
 cases e20 : s0 with
 | nil =>
  try simp only [e20, Jr] at h
  cases e22 : s1 with
  | nil =>
   try simp only [e22, Jr] at h
   rcases ifC h with ⟨c23, h⟩ | ⟨c23, h⟩
   ·exact absurd h (by simp [Jcg])
   ·cases h
    simp only [Qk, Yq, e20, e22]
    rw [Jn]
    simp [*]
  | lst l21 =>
   try simp only [e22] at h
   rcases ifC h with ⟨c24, h⟩ | ⟨c24, h⟩
   ·exact absurd h (by simp [Jcg])
   ·cases h
    simp only [Qk, Yq, e20, e22]
    rw [Jn]
    simp [*]
 | lst l19 =>
  try simp only [e20] at h
  cases e26 : s1 with
  | nil =>
   try simp only [e26, Jr] at h
   rcases ifC h with ⟨c27, h⟩ | ⟨c27, h⟩
   ·obtain ⟨v31, h30, h⟩ := oS h
    have f28 := Qa (w := 3) h30
    have f29 := h30
    have f32 := (X1 (e := Jh) f29 true 3 (by decide) (by decide))
    simp only [Jh] at f32
    obtain ⟨v35, h34, h⟩ := oS h
    have f33 := Jiy h34
    rcases ifC h with ⟨c36, h⟩ | ⟨c36, h⟩
    ·cases h
     simp only [Qk, e20, e26]
     rw [Jn]
     rcases tof (ilt s4 0) with a37 | a37 <;> rcases tof (ilt v35.2 s4) with a38 | a38 <;> (try (simp [c27, a37, a38] at c36; done)) <;> simp [*]
    ·cases h
     simp only [Qk, e20, e26]
     rw [Jn]
     rcases tof (ilt s4 0) with a39 | a39 <;> rcases tof (ilt v35.2 s4) with a40 | a40 <;> (try (simp [c27, a39, a40] at c36; done)) <;> simp [*]
   ·cases h
    simp only [Qk, Yq, e20, e26]
    rw [Jn]
    simp [*]
  | lst l25 =>
   try simp only [e26] at h
   rcases ifC h with ⟨c41, h⟩ | ⟨c41, h⟩
   ·obtain ⟨v45, h44, h⟩ := oS h
    have f42 := Qa (w := 3) h44
    have f43 := h44
    have f46 := (X1 (e := Jh) f43 true 3 (by decide) (by decide))
    simp only [Jh] at f46
    obtain ⟨v49, h48, h⟩ := oS h
    have f47 := Jiy h48
    rcases ifC h with ⟨c50, h⟩ | ⟨c50, h⟩
    ·cases h
     simp only [Qk, e20, e26]
     rw [Jn]
     rcases tof (ilt s4 0) with a51 | a51 <;> rcases tof (ilt v49.2 s4) with a52 | a52 <;> (try (simp [c41, a51, a52] at c50; done)) <;> simp [*]
    ·cases h
     simp only [Qk, e20, e26]
     rw [Jn]
     rcases tof (ilt s4 0) with a53 | a53 <;> rcases tof (ilt v49.2 s4) with a54 | a54 <;> (try (simp [c41, a53, a54] at c50; done)) <;> simp [*]
   ·cases h
    simp only [Qk, Yq, e20, e26]
    rw [Jn]
    simp [*]) bigN s r h
def Jac  (s : (Ja × (FS Jd) × (FS Jd))) : Option (LR (Ja × (FS Jd) × (FS Jd)) (FS Jd)) := match s with
 | (s0, s1, s2) => (if (igt (flen s1) 0) = true then (J3 (Ky (zd s0 (flen s1)) bigN (s1, s2, 0, 0, (-1), 0)) fun v17 => (J3 (fget v17.1 v17.2.2.1) fun v21 => (J3 (Jc4 v21 v17.2.2.2) fun v25 => (J3 (fsl v17.1 0 v17.2.2.1) fun v27 => (J3 (fsl v17.1 (iadd .i64 v17.2.2.1 1) (flen v17.1)) fun v29 => (if fits 40 (flen v27 + flen v29) = true then (if fits 40 ((flen v17.2.1) + 1) = true then (J3 (Jbk v25) fun v36 => some (.nx (v36.a1, (fapp v27 v29), (Y0 v17.2.1 v25)))) else none) else none))))))
 else some (.dn s2))
def Kv  (s : (Ja × (FS Jd) × (FS Jd))) : St := match s with
 | (s0, s1, s2) => (zo s1 (zo s2 (⟨fr [(2, .ptr 2 0 0), (5, .nils), (6, .nils)], hl [(2, .box 0 [.int .i64 s0.X, .int .i64 s0.Y])]⟩)
  (fun l1 => ⟨fr [(2, .ptr 2 0 0), (5, .nils), (6, .arr 6 0 0 l1.l.length)], hl [(2, .box 0 [.int .i64 s0.X, .int .i64 s0.Y]), (6, .arr 0 3 50 (Jp Jh l1.l) false)]⟩))
  (fun l0 => (zo s2 (⟨fr [(2, .ptr 2 0 0), (5, .arr 5 0 0 l0.l.length), (6, .nils)], hl [(2, .box 0 [.int .i64 s0.X, .int .i64 s0.Y]), (5, .arr 0 3 50 (Jp Jh l0.l) false)]⟩)
  (fun l1 => ⟨fr [(2, .ptr 2 0 0), (5, .arr 5 0 0 l0.l.length), (6, .arr 6 0 0 l1.l.length)], hl [(2, .box 0 [.int .i64 s0.X, .int .i64 s0.Y]), (5, .arr 0 3 50 (Jp Jh l0.l) false), (6, .arr 0 3 50 (Jp Jh l1.l) false)]⟩))))
def Yt  (x : (FS Jd)) : LE × St := (zo x (.exit 0, ⟨fr [(6, .nils)], hl []⟩)
  (fun l0 => (.exit 0, ⟨fr [(6, .arr 6 0 0 l0.l.length)], hl [(6, .arr 0 3 50 (Jp Jh l0.l) false)]⟩)))
theorem Je1  {s} {r} (h : Ky (Jac ) bigN s = some r) : LK env [] 0 [2, 5, 6] J2e (some (Kv  s)) = some (Yt  r) := Kt (st := Kv ) (out := Yt ) (by
 clear h s r
 rintro ⟨s0, s1, s2⟩ x h
 simp only [Jac] at h
 cases e11 : s1 with
 | nil =>
  try simp only [e11, Jr] at h
  cases e13 : s2 with
  | nil =>
   try simp only [e13, Jr] at h
   have c14 : (igt 0 0) = false := rfl
   rw [if_neg (by rw [c14]; decide)] at h
   cases h
   simp only [Kv, Yt, e11, e13]
   rw [Jn]
   simp [*]
  | lst l12 =>
   try simp only [e13] at h
   have c15 : (igt 0 0) = false := rfl
   rw [if_neg (by rw [c15]; decide)] at h
   cases h
   simp only [Kv, Yt, e11, e13]
   rw [Jn]
   simp [*]
 | lst l10 =>
  try simp only [e11] at h
  cases e17 : s2 with
  | nil =>
   try simp only [e17, Jr] at h
   rcases ifC h with ⟨c18, h⟩ | ⟨c18, h⟩
   ·obtain ⟨v56, h55, h⟩ := oS h
    have f57 := Je0 h55
    simp only [Qk, Yq, J5] at f57
    cases e60 : v56.1 with
    | nil =>
     try simp only [e60, Jr] at h
     cases e62 : v56.2.1 with
     | nil =>
      try simp only [e62, Jr] at h
      simp only [e60, e62, Jr, Jj, Jk] at f57
      exact absurd h (by simp [Jcg])
     | lst l61 =>
      try simp only [e62] at h
      simp only [e60, e62, Jr, Jj, Jk] at f57
      exact absurd h (by simp [Jcg])
    | lst l59 =>
     try simp only [e60] at h
     cases e64 : v56.2.1 with
     | nil =>
      try simp only [e64, Jr] at h
      simp only [e60, e64, Jr, Jj, Jk] at f57
      obtain ⟨v68, h67, h⟩ := oS h
      have f65 := Qa (w := 3) h67
      have f66 := h67
      have f69 := (X1 (e := Jh) f66 true 3 (by decide) (by decide))
      simp only [Jh] at f69
      obtain ⟨v72, h71, h⟩ := oS h
      have f70 := Jcs h71
      obtain ⟨v78, h77, h⟩ := oS h
      have f75 := Jdk (e := Jh) h77
      try simp only [Int.reduceToNat, Nat.reduceMul, Nat.one_mul, Nat.mul_one] at f75
      have f76 := Je6 h77 3
      try simp only [Int.reduceToNat, Nat.reduceMul, Nat.one_mul, Nat.mul_one] at f76
      have f73 := Jhq (w := 3) h77
      try simp only [Int.reduceToNat, Nat.reduceMul, Nat.one_mul, Nat.mul_one] at f73
      have f74 := h77
      obtain ⟨v84, h83, h⟩ := oS h
      have f81 := Jdk (e := Jh) h83
      try simp only [Int.reduceToNat, Nat.reduceMul, Nat.one_mul, Nat.mul_one] at f81
      have f82 := Je6 h83 3
      try simp only [Int.reduceToNat, Nat.reduceMul, Nat.one_mul, Nat.mul_one] at f82
      have f79 := Jfy (w := 3) h83
      try simp only [Int.reduceToNat, Nat.reduceMul, Nat.one_mul, Nat.mul_one] at f79
      have f80 := h83
      obtain ⟨h86, h⟩ := ifS h
      rcases tof (ieq (flen v84) 0) with z87 | z87
      ·simp only [Jky z87] at h
       have f85 := fun g0 b0 (H : Heap) hg => @Jkg _ _ Jh _ _ _ _ _ _ _ _ f74 f80 z87 g0 b0 H 5 0 50 hg
       try simp only [Int.reduceToNat, Nat.reduceMul, Nat.one_mul, Nat.mul_one] at f85
       obtain ⟨h89, h⟩ := ifS h
       have f88 := fun H g0 hg y => @Jbw _ _ Jh _ v72 40 h89 (by decide) H g0 50 y hg
       simp only [Jh] at f88
       obtain ⟨v92, h91, h⟩ := oS h
       have f90 := Y7 h91
       cases h
       simp only [Kv, e11, e17]
       rw [Jn]
       try simp only [c18] at f57
       simp [*, Jnt]
      ·have f85 := fun g0 (H : Heap) hg => @Jmg _ _ Jh _ _ _ _ _ _ _ _ f74 f80 40 h86 z87 (by decide) g0 H 5 0 50 hg
       try simp only [Int.reduceToNat, Nat.reduceMul, Nat.one_mul, Nat.mul_one] at f85
       obtain ⟨h94, h⟩ := ifS h
       have f93 := fun H g0 hg y => @Jbw _ _ Jh _ v72 40 h94 (by decide) H g0 50 y hg
       simp only [Jh] at f93
       obtain ⟨v97, h96, h⟩ := oS h
       have f95 := Y7 h96
       cases h
       simp only [Kv, e11, e17]
       rw [Jn]
       try simp only [c18] at f57
       simp [*]
     | lst l63 =>
      try simp only [e64] at h
      simp only [e60, e64, Jr, Jj, Jk] at f57
      obtain ⟨v101, h100, h⟩ := oS h
      have f98 := Qa (w := 3) h100
      have f99 := h100
      have f102 := (X1 (e := Jh) f99 true 3 (by decide) (by decide))
      simp only [Jh] at f102
      obtain ⟨v105, h104, h⟩ := oS h
      have f103 := Jcs h104
      obtain ⟨v111, h110, h⟩ := oS h
      have f108 := Jdk (e := Jh) h110
      try simp only [Int.reduceToNat, Nat.reduceMul, Nat.one_mul, Nat.mul_one] at f108
      have f109 := Je6 h110 3
      try simp only [Int.reduceToNat, Nat.reduceMul, Nat.one_mul, Nat.mul_one] at f109
      have f106 := Jhq (w := 3) h110
      try simp only [Int.reduceToNat, Nat.reduceMul, Nat.one_mul, Nat.mul_one] at f106
      have f107 := h110
      obtain ⟨v117, h116, h⟩ := oS h
      have f114 := Jdk (e := Jh) h116
      try simp only [Int.reduceToNat, Nat.reduceMul, Nat.one_mul, Nat.mul_one] at f114
      have f115 := Je6 h116 3
      try simp only [Int.reduceToNat, Nat.reduceMul, Nat.one_mul, Nat.mul_one] at f115
      have f112 := Jfy (w := 3) h116
      try simp only [Int.reduceToNat, Nat.reduceMul, Nat.one_mul, Nat.mul_one] at f112
      have f113 := h116
      obtain ⟨h119, h⟩ := ifS h
      rcases tof (ieq (flen v117) 0) with z120 | z120
      ·simp only [Jky z120] at h
       have f118 := fun g0 b0 (H : Heap) hg => @Jkg _ _ Jh _ _ _ _ _ _ _ _ f107 f113 z120 g0 b0 H 5 0 50 hg
       try simp only [Int.reduceToNat, Nat.reduceMul, Nat.one_mul, Nat.mul_one] at f118
       obtain ⟨h122, h⟩ := ifS h
       have f121 := fun g0 H y => @Yn _ _ Jh _ (FS.lst l63) v105 40 h122 (by decide) g0 H 6 0 50 y
       simp only [Jh] at f121
       obtain ⟨v125, h124, h⟩ := oS h
       have f123 := Y7 h124
       cases h
       simp only [Kv, e11, e17]
       rw [Jn]
       try simp only [c18] at f57
       simp [*, Jnt]
      ·have f118 := fun g0 (H : Heap) hg => @Jmg _ _ Jh _ _ _ _ _ _ _ _ f107 f113 40 h119 z120 (by decide) g0 H 5 0 50 hg
       try simp only [Int.reduceToNat, Nat.reduceMul, Nat.one_mul, Nat.mul_one] at f118
       obtain ⟨h127, h⟩ := ifS h
       have f126 := fun g0 H y => @Yn _ _ Jh _ (FS.lst l63) v105 40 h127 (by decide) g0 H 6 0 50 y
       simp only [Jh] at f126
       obtain ⟨v130, h129, h⟩ := oS h
       have f128 := Y7 h129
       cases h
       simp only [Kv, e11, e17]
       rw [Jn]
       try simp only [c18] at f57
       simp [*]
   ·cases h
    simp only [Kv, Yt, e11, e17]
    rw [Jn]
    simp [*]
  | lst l16 =>
   try simp only [e17] at h
   rcases ifC h with ⟨c131, h⟩ | ⟨c131, h⟩
   ·obtain ⟨v133, h132, h⟩ := oS h
    have f134 := Je0 h132
    simp only [Qk, Yq, J5] at f134
    cases e137 : v133.1 with
    | nil =>
     try simp only [e137, Jr] at h
     cases e139 : v133.2.1 with
     | nil =>
      try simp only [e139, Jr] at h
      simp only [e137, e139, Jr, Jj, Jk] at f134
      exact absurd h (by simp [Jcg])
     | lst l138 =>
      try simp only [e139] at h
      simp only [e137, e139, Jr, Jj, Jk] at f134
      exact absurd h (by simp [Jcg])
    | lst l136 =>
     try simp only [e137] at h
     cases e141 : v133.2.1 with
     | nil =>
      try simp only [e141, Jr] at h
      simp only [e137, e141, Jr, Jj, Jk] at f134
      obtain ⟨v145, h144, h⟩ := oS h
      have f142 := Qa (w := 3) h144
      have f143 := h144
      have f146 := (X1 (e := Jh) f143 true 3 (by decide) (by decide))
      simp only [Jh] at f146
      obtain ⟨v149, h148, h⟩ := oS h
      have f147 := Jcs h148
      obtain ⟨v155, h154, h⟩ := oS h
      have f152 := Jdk (e := Jh) h154
      try simp only [Int.reduceToNat, Nat.reduceMul, Nat.one_mul, Nat.mul_one] at f152
      have f153 := Je6 h154 3
      try simp only [Int.reduceToNat, Nat.reduceMul, Nat.one_mul, Nat.mul_one] at f153
      have f150 := Jhq (w := 3) h154
      try simp only [Int.reduceToNat, Nat.reduceMul, Nat.one_mul, Nat.mul_one] at f150
      have f151 := h154
      obtain ⟨v161, h160, h⟩ := oS h
      have f158 := Jdk (e := Jh) h160
      try simp only [Int.reduceToNat, Nat.reduceMul, Nat.one_mul, Nat.mul_one] at f158
      have f159 := Je6 h160 3
      try simp only [Int.reduceToNat, Nat.reduceMul, Nat.one_mul, Nat.mul_one] at f159
      have f156 := Jfy (w := 3) h160
      try simp only [Int.reduceToNat, Nat.reduceMul, Nat.one_mul, Nat.mul_one] at f156
      have f157 := h160
      obtain ⟨h163, h⟩ := ifS h
      rcases tof (ieq (flen v161) 0) with z164 | z164
      ·simp only [Jky z164] at h
       have f162 := fun g0 b0 (H : Heap) hg => @Jkg _ _ Jh _ _ _ _ _ _ _ _ f151 f157 z164 g0 b0 H 5 0 50 hg
       try simp only [Int.reduceToNat, Nat.reduceMul, Nat.one_mul, Nat.mul_one] at f162
       obtain ⟨h166, h⟩ := ifS h
       have f165 := fun H g0 hg y => @Jbw _ _ Jh _ v149 40 h166 (by decide) H g0 50 y hg
       simp only [Jh] at f165
       obtain ⟨v169, h168, h⟩ := oS h
       have f167 := Y7 h168
       cases h
       simp only [Kv, e11, e17]
       rw [Jn]
       try simp only [c131] at f134
       simp [*, Jnt]
      ·have f162 := fun g0 (H : Heap) hg => @Jmg _ _ Jh _ _ _ _ _ _ _ _ f151 f157 40 h163 z164 (by decide) g0 H 5 0 50 hg
       try simp only [Int.reduceToNat, Nat.reduceMul, Nat.one_mul, Nat.mul_one] at f162
       obtain ⟨h171, h⟩ := ifS h
       have f170 := fun H g0 hg y => @Jbw _ _ Jh _ v149 40 h171 (by decide) H g0 50 y hg
       simp only [Jh] at f170
       obtain ⟨v174, h173, h⟩ := oS h
       have f172 := Y7 h173
       cases h
       simp only [Kv, e11, e17]
       rw [Jn]
       try simp only [c131] at f134
       simp [*]
     | lst l140 =>
      try simp only [e141] at h
      simp only [e137, e141, Jr, Jj, Jk] at f134
      obtain ⟨v178, h177, h⟩ := oS h
      have f175 := Qa (w := 3) h177
      have f176 := h177
      have f179 := (X1 (e := Jh) f176 true 3 (by decide) (by decide))
      simp only [Jh] at f179
      obtain ⟨v182, h181, h⟩ := oS h
      have f180 := Jcs h181
      obtain ⟨v188, h187, h⟩ := oS h
      have f185 := Jdk (e := Jh) h187
      try simp only [Int.reduceToNat, Nat.reduceMul, Nat.one_mul, Nat.mul_one] at f185
      have f186 := Je6 h187 3
      try simp only [Int.reduceToNat, Nat.reduceMul, Nat.one_mul, Nat.mul_one] at f186
      have f183 := Jhq (w := 3) h187
      try simp only [Int.reduceToNat, Nat.reduceMul, Nat.one_mul, Nat.mul_one] at f183
      have f184 := h187
      obtain ⟨v194, h193, h⟩ := oS h
      have f191 := Jdk (e := Jh) h193
      try simp only [Int.reduceToNat, Nat.reduceMul, Nat.one_mul, Nat.mul_one] at f191
      have f192 := Je6 h193 3
      try simp only [Int.reduceToNat, Nat.reduceMul, Nat.one_mul, Nat.mul_one] at f192
      have f189 := Jfy (w := 3) h193
      try simp only [Int.reduceToNat, Nat.reduceMul, Nat.one_mul, Nat.mul_one] at f189
      have f190 := h193
      obtain ⟨h196, h⟩ := ifS h
      rcases tof (ieq (flen v194) 0) with z197 | z197
      ·simp only [Jky z197] at h
       have f195 := fun g0 b0 (H : Heap) hg => @Jkg _ _ Jh _ _ _ _ _ _ _ _ f184 f190 z197 g0 b0 H 5 0 50 hg
       try simp only [Int.reduceToNat, Nat.reduceMul, Nat.one_mul, Nat.mul_one] at f195
       obtain ⟨h199, h⟩ := ifS h
       have f198 := fun g0 H y => @Yn _ _ Jh _ (FS.lst l140) v182 40 h199 (by decide) g0 H 6 0 50 y
       simp only [Jh] at f198
       obtain ⟨v202, h201, h⟩ := oS h
       have f200 := Y7 h201
       cases h
       simp only [Kv, e11, e17]
       rw [Jn]
       try simp only [c131] at f134
       simp [*, Jnt]
      ·have f195 := fun g0 (H : Heap) hg => @Jmg _ _ Jh _ _ _ _ _ _ _ _ f184 f190 40 h196 z197 (by decide) g0 H 5 0 50 hg
       try simp only [Int.reduceToNat, Nat.reduceMul, Nat.one_mul, Nat.mul_one] at f195
       obtain ⟨h204, h⟩ := ifS h
       have f203 := fun g0 H y => @Yn _ _ Jh _ (FS.lst l140) v182 40 h204 (by decide) g0 H 6 0 50 y
       simp only [Jh] at f203
       obtain ⟨v207, h206, h⟩ := oS h
       have f205 := Y7 h206
       cases h
       simp only [Kv, e11, e17]
       rw [Jn]
       try simp only [c131] at f134
       simp [*]
   ·cases h
    simp only [Kv, Yt, e11, e17]
    rw [Jn]
    simp [*]) bigN s r h
def Jdg (p0 : Ja) (p1 : (FS Jd)) : Option (FS Jd) := (if (bnot (Qz p0)) = true then some (FS.nil : (FS Jd))
 else (J3 (Jdb p1) fun v4 => (J3 (Ky (Jac) bigN (p0, v4, (FS.nil : (FS Jd)))) fun v38 => some v38)))
theorem Jg3 {p0} {p1} {r} (h : Jdg p0 p1 = some r) : FC env 43 [.agg [.int .i64 p0.X, .int .i64 p0.Y], encF Jh p1] none = some (encF Jh r, fun _ => none) := by
 unfold Jdg at h
 have f1 := Jg4 p0
 rcases ifC h with ⟨c2, h⟩ | ⟨c2, h⟩
 ·cases h
  refine J4 (lf := lf43) rfl rfl rfl ?_
  simp only [lf43, lc43]
  rcases tof (Qz p0) with a3 | a3
  ·simp [a3] at c2
  ·simp [*]
 ·obtain ⟨v5, h4, h⟩ := oS h
  have f6 := Jh8 h4
  cases e8 : v5 with
  | nil =>
   try simp only [e8, Jr] at h
   simp only [e8, Jr, Jj, Jk] at f6
   have f9 : ∀ H : Heap, Jak (FC env) 59 H [encF Jh p1] = some (.nils, H) := by
     intro H 
     simp [*]
   obtain ⟨v209, h208, h⟩ := oS h
   have f210 := Je1 h208
   simp only [Kv, Yt, J5] at f210
   cases e213 : v209 with
   | nil =>
    try simp only [e213, Jr] at h
    simp only [e213, Jr, Jj, Jk] at f210
    cases h
    refine J4 (lf := lf43) rfl rfl rfl ?_
    simp only [lf43, lc43]
    rcases tof (Qz p0) with a214 | a214
    ·try simp only [a214] at f6 f210
     simp [*, -Qr]
    ·simp [a214] at c2
   | lst l212 =>
    try simp only [e213] at h
    simp only [e213, Jr, Jj, Jk] at f210
    cases h
    refine J4 (lf := lf43) rfl rfl rfl ?_
    simp only [lf43, lc43]
    rcases tof (Qz p0) with a215 | a215
    ·try simp only [a215] at f6 f210
     simp [*, -Qr, Qm (e := Jh) (el := 50) (fz := false)]
    ·simp [a215] at c2
  | lst l7 =>
   try simp only [e8] at h
   simp only [e8, Jr, Jj, Jk] at f6
   have f216 : ∀ H : Heap, H 701059000 = none → Jak (FC env) 59 H [encF Jh p1] = some (.arr 701059000 0 0 (FS.lst l7).l.length, upd H 701059000 (some (.arr 0 3 50 (Jp Jh (FS.lst l7).l) false))) := by
     intro H q0
     simp [*, q0]
   obtain ⟨v218, h217, h⟩ := oS h
   have f219 := Je1 h217
   simp only [Kv, Yt, J5] at f219
   cases e222 : v218 with
   | nil =>
    try simp only [e222, Jr] at h
    simp only [e222, Jr, Jj, Jk] at f219
    cases h
    refine J4 (lf := lf43) rfl rfl rfl ?_
    simp only [lf43, lc43]
    rcases tof (Qz p0) with a223 | a223
    ·try simp only [a223] at f6 f219
     simp [*, -Qr]
    ·simp [a223] at c2
   | lst l221 =>
    try simp only [e222] at h
    simp only [e222, Jr, Jj, Jk] at f219
    cases h
    refine J4 (lf := lf43) rfl rfl rfl ?_
    simp only [lf43, lc43]
    rcases tof (Qz p0) with a224 | a224
    ·try simp only [a224] at f6 f219
     simp [*, -Qr, Qm (e := Jh) (el := 50) (fz := false)]
    ·simp [a224] at c2
attribute [simp] c74_0 c74_1 c74_2 c74_3 c74_4
def Jbm (p0 : Jd) : Option (A2 Ja) := (J3 (Jbk p0) fun v3 => (if (bnot p0.Closed) = true then some (⟨v3.a1, v3.a0⟩ : (A2 Ja))
 else some v3))
theorem Jeh {p0} {r} (h : Jbm p0 = some r) : FC env 74 [.agg [.int .i64 p0.Role, .bool p0.Closed, encF Je p0.Cells]] none = some (.agg [.int .i64 r.a0.X, .int .i64 r.a0.Y, .int .i64 r.a1.X, .int .i64 r.a1.Y], fun _ => none) := by
 unfold Jbm at h
 obtain ⟨v3, h2, h⟩ := oS h
 have f1 := Y7 h2
 rcases ifC h with ⟨c4, h⟩ | ⟨c4, h⟩
 ·cases h
  refine J4 (lf := lf74) rfl rfl rfl ?_
  simp only [lf74, lc74]
  rcases tof p0.Closed with a5 | a5
  ·simp [a5] at c4
  ·try simp only [a5] at f1
   simp [*]
 ·cases h
  refine J4 (lf := lf74) rfl rfl rfl ?_
  simp only [lf74, lc74]
  rcases tof p0.Closed with a6 | a6
  ·try simp only [a6] at f1
   simp [*]
  ·simp [a6] at c4
attribute [simp] c60_0 c60_1 c60_2 c60_3 c60_4 c60_5 c60_6 c60_7 c60_8 c60_9 J12 Jzm J3l J04 c60_15
theorem c60_L0_u : EC Γ ps 0 J6c σ = EC Γ ps 0 (.seq (.reg false c60_3) (.seq (.cond (.t 15) .skip (.seq (.trim [4, 5]) (.exit 0))) (.seq (.blk 1 (.seq (.reg false c60_4) (.seq (.reg true c60_5) (.seq (.reg true c60_6) (.seq (.reg false c60_7) (.seq (.seq (.reg false c60_8) (.cond (.t 34) (.seq (.reg true c60_9) (.reg true J12)) .skip)) (.seq (.reg false Jzm) (.reg false J3l)))))))) (.reg false J04)))) σ := rfl
attribute [simp ↓] c60_L0_u
def zq (k0 : (FS Jd)) (k1 : Xb) (k2 : Int) (s : (Xb × Int)) : Option (LR (Xb × Int) Xb) := match s with
 | (s0, s1) => (if (band (beqB (fnl s0.a) (fnl s0.b)) (band (beqB (fnl s0.a) (fnl s0.ahead)) (beqB (fnl s0.a) (fnl s0.aback)))) = true then (if (ilt s1 k2) = true then (J3 (fget k0 s1) fun v5 => (J3 (Jbk v5) fun v9 => (if fits 32 ((flen s0.a) + 1) = true then (J3 (Jbm v5) fun v14 => (if fits 32 ((flen s0.b) + 1) = true then (if (igt s1 0) = true then (J3 (fget s0.ahead (isub .i64 s1 1)) fun v20 => (J3 (fget (Y0 s0.a v9) (isub .i64 s1 1)) fun v25 => (J3 (fget (Y0 s0.a v9) s1) fun v30 => (J3 (fget s0.aback (isub .i64 s1 1)) fun v35 => (J3 (fget (Y0 s0.b v14) s1) fun v40 => (J3 (fget (Y0 s0.b v14) (isub .i64 s1 1)) fun v45 => (if fits 8 ((flen s0.ahead) + 1) = true then (if fits 8 ((flen s0.aback) + 1) = true then some (.nx ((⟨s0.from_, (Y0 s0.a v9), (Y0 s0.b v14), (Y0 s0.ahead (iadd .i64 v20 (Km v25.a1 v30.a0))), (Y0 s0.aback (iadd .i64 v35 (Km v40.a1 v45.a0)))⟩ : Xb), (iadd .i64 s1 1))) else none) else none)))))))
 else (if fits 8 ((flen s0.ahead) + 1) = true then (if fits 8 ((flen s0.aback) + 1) = true then some (.nx ((⟨s0.from_, (Y0 s0.a v9), (Y0 s0.b v14), (Y0 s0.ahead 0), (Y0 s0.aback 0)⟩ : Xb), (iadd .i64 s1 1))) else none) else none)) else none)) else none)))
 else some (.dn (⟨s0.from_, s0.a, s0.b, s0.ahead, s0.aback⟩ : Xb)))
 else none)
def Yu (k0 : (FS Jd)) (k1 : Xb) (k2 : Int) (s : (Xb × Int)) : St := match s with
 | (s0, s1) => (zo s0.a (⟨fr [(4, .ptr 4 0 0), (5, .ptr 5 0 0), (12, .arr 1 0 0 k0.l.length), (13, .int .i64 k2), (14, .int .i64 s1)], hl [(1, .arr 0 3 50 (Jp Jh k0.l) false), (4, .box 0 [.int .i64 k1.from_.X, .int .i64 k1.from_.Y, .nils, .nils, .nils, .nils]), (5, .box 0 [.int .i64 s0.from_.X, .int .i64 s0.from_.Y, .nils, .nils, .nils, .nils])]⟩)
  (fun l0 => ⟨fr [(4, .ptr 4 0 0), (5, .ptr 5 0 0), (12, .arr 1 0 0 k0.l.length), (13, .int .i64 k2), (14, .int .i64 s1)], hl [(1, .arr 0 3 50 (Jp Jh k0.l) false), (4, .box 0 [.int .i64 k1.from_.X, .int .i64 k1.from_.Y, .nils, .nils, .nils, .nils]), (5, .box 0 [.int .i64 s0.from_.X, .int .i64 s0.from_.Y, .arr 1005002 0 0 l0.l.length, .arr 1005003 0 0 s0.b.l.length, .arr 1005004 0 0 s0.ahead.l.length, .arr 1005005 0 0 s0.aback.l.length]), (1005002, .arr 0 4 107 (Jp J7 l0.l) false), (1005003, .arr 0 4 107 (Jp J7 s0.b.l) false), (1005004, .arr 0 1 3 (Jp Xc s0.ahead.l) false), (1005005, .arr 0 1 3 (Jp Xc s0.aback.l) false)]⟩))
def Jaa (k0 : (FS Jd)) (k1 : Xb) (k2 : Int) (x : Xb) : LE × St := (zo x.a (.exit 0, ⟨fr [(4, .ptr 4 0 0), (5, .ptr 5 0 0)], hl [(1, .arr 0 3 50 (Jp Jh k0.l) false), (4, .box 0 [.int .i64 k1.from_.X, .int .i64 k1.from_.Y, .nils, .nils, .nils, .nils]), (5, .box 0 [.int .i64 x.from_.X, .int .i64 x.from_.Y, .nils, .nils, .nils, .nils])]⟩)
  (fun l0 => (.exit 0, ⟨fr [(4, .ptr 4 0 0), (5, .ptr 5 0 0)], hl [(1, .arr 0 3 50 (Jp Jh k0.l) false), (4, .box 0 [.int .i64 k1.from_.X, .int .i64 k1.from_.Y, .nils, .nils, .nils, .nils]), (5, .box 0 [.int .i64 x.from_.X, .int .i64 x.from_.Y, .arr 1005002 0 0 l0.l.length, .arr 1005003 0 0 x.b.l.length, .arr 1005004 0 0 x.ahead.l.length, .arr 1005005 0 0 x.aback.l.length]), (1005002, .arr 0 4 107 (Jp J7 l0.l) false), (1005003, .arr 0 4 107 (Jp J7 x.b.l) false), (1005004, .arr 0 1 3 (Jp Xc x.ahead.l) false), (1005005, .arr 0 1 3 (Jp Xc x.aback.l) false)]⟩)))
theorem Jio {k0} {k1} {k2} {s} {r} (h : Ky (zq k0 k1 k2) bigN s = some r) : LK env [1] 0 [4, 5, 12, 13, 14] J6c (some (Yu k0 k1 k2 s)) = some (Jaa k0 k1 k2 r) := Kt (st := Yu k0 k1 k2) (out := Jaa k0 k1 k2) (by
 clear h s r
 rintro ⟨s0, s1⟩ x h
 simp only [zq] at h
 obtain ⟨hG, h⟩ := ifS h
 cases e2 : s0.a with
 | nil =>
  try simp only [e2, Jr] at h
  cases e4 : s0.b with
  | nil =>
   try simp only [e4, Jr] at h
   cases e6 : s0.ahead with
   | nil =>
    try simp only [e6, Jr] at h
    cases e8 : s0.aback with
    | nil =>
     try simp only [e8, Jr] at h
     rcases ifC h with ⟨c9, h⟩ | ⟨c9, h⟩
     ·obtain ⟨v13, h12, h⟩ := oS h
      have f10 := Qa (w := 3) h12
      have f11 := h12
      have f14 := (X1 (e := Jh) f11 true 3 (by decide) (by decide))
      simp only [Jh] at f14
      obtain ⟨v17, h16, h⟩ := oS h
      have f15 := Y7 h16
      obtain ⟨h19, h⟩ := ifS h
      have f18 := fun H g0 hg y => @Jbw _ _ J7 _ v17 32 h19 (by decide) H g0 107 y hg
      simp only [J7] at f18
      obtain ⟨v22, h21, h⟩ := oS h
      have f20 := Jeh h21
      obtain ⟨h24, h⟩ := ifS h
      have f23 := fun H g0 hg y => @Jbw _ _ J7 _ v22 32 h24 (by decide) H g0 107 y hg
      simp only [J7] at f23
      rcases ifC h with ⟨c25, h⟩ | ⟨c25, h⟩
      ·exact absurd h (by simp [Jcg])
      ·obtain ⟨h27, h⟩ := ifS h
       have f26 := fun H g0 hg y => @Jbw _ _ Xc _ 0 8 h27 (by decide) H g0 3 y hg
       simp only [Xc] at f26
       obtain ⟨h29, h⟩ := ifS h
       have f28 := fun H g0 hg y => @Jbw _ _ Xc _ 0 8 h29 (by decide) H g0 3 y hg
       simp only [Xc] at f28
       cases h
       simp only [Yu, e2, e4, e6, e8]
       rw [Jn]
       simp [*]
     ·cases h
      simp only [Yu, Jaa, e2, e4, e6, e8]
      rw [Jn]
      simp [*]
    | lst l7 =>
     exact absurd hG (by simp [e2, e8])
   | lst l5 =>
    exact absurd hG (by simp [e2, e6])
  | lst l3 =>
   exact absurd hG (by simp [e2, e4])
 | lst l1 =>
  try simp only [e2] at h
  cases e31 : s0.b with
  | nil =>
   exact absurd hG (by simp [e2, e31])
  | lst l30 =>
   try simp only [e31] at h
   cases e33 : s0.ahead with
   | nil =>
    exact absurd hG (by simp [e2, e33])
   | lst l32 =>
    try simp only [e33] at h
    cases e35 : s0.aback with
    | nil =>
     exact absurd hG (by simp [e2, e35])
    | lst l34 =>
     try simp only [e35] at h
     rcases ifC h with ⟨c36, h⟩ | ⟨c36, h⟩
     ·obtain ⟨v40, h39, h⟩ := oS h
      have f37 := Qa (w := 3) h39
      have f38 := h39
      have f41 := (X1 (e := Jh) f38 true 3 (by decide) (by decide))
      simp only [Jh] at f41
      obtain ⟨v44, h43, h⟩ := oS h
      have f42 := Y7 h43
      obtain ⟨h46, h⟩ := ifS h
      have f45 := fun g0 H y => @Yn _ _ J7 _ (FS.lst l1) v44 32 h46 (by decide) g0 H 1005002 0 107 y
      simp only [J7] at f45
      obtain ⟨v49, h48, h⟩ := oS h
      have f47 := Jeh h48
      obtain ⟨h51, h⟩ := ifS h
      have f50 := fun g0 H y => @Yn _ _ J7 _ (FS.lst l30) v49 32 h51 (by decide) g0 H 1005003 0 107 y
      simp only [J7] at f50
      rcases ifC h with ⟨c52, h⟩ | ⟨c52, h⟩
      ·obtain ⟨v56, h55, h⟩ := oS h
       have f53 := Qa (w := 1) h55
       have f54 := h55
       have f57 := (X1 (e := Xc) f54 false 1 (by decide) (by decide))
       simp only [Xc] at f57
       obtain ⟨v61, h60, h⟩ := oS h
       have f58 := Qa (w := 4) h60
       have f59 := h60
       have f62 := (Jgd (e := J7) f59 true 2 2 (by decide) (by decide))
       simp only [J7] at f62
       obtain ⟨v66, h65, h⟩ := oS h
       have f63 := Qa (w := 4) h65
       have f64 := h65
       have f67 := (X1 (e := J7) f64 true 2 (by decide) (by decide))
       simp only [J7] at f67
       have f68 := Zc v61.a1 v66.a0
       obtain ⟨v72, h71, h⟩ := oS h
       have f69 := Qa (w := 1) h71
       have f70 := h71
       have f73 := (X1 (e := Xc) f70 false 1 (by decide) (by decide))
       simp only [Xc] at f73
       obtain ⟨v77, h76, h⟩ := oS h
       have f74 := Qa (w := 4) h76
       have f75 := h76
       have f78 := (Jgd (e := J7) f75 true 2 2 (by decide) (by decide))
       simp only [J7] at f78
       obtain ⟨v82, h81, h⟩ := oS h
       have f79 := Qa (w := 4) h81
       have f80 := h81
       have f83 := (X1 (e := J7) f80 true 2 (by decide) (by decide))
       simp only [J7] at f83
       have f84 := Zc v77.a1 v82.a0
       obtain ⟨h86, h⟩ := ifS h
       have f85 := fun g0 H y => @Yn _ _ Xc _ (FS.lst l32) (iadd .i64 v56 (Km v61.a1 v66.a0)) 8 h86 (by decide) g0 H 1005004 0 3 y
       simp only [Xc] at f85
       obtain ⟨h88, h⟩ := ifS h
       have f87 := fun g0 H y => @Yn _ _ Xc _ (FS.lst l34) (iadd .i64 v72 (Km v77.a1 v82.a0)) 8 h88 (by decide) g0 H 1005005 0 3 y
       simp only [Xc] at f87
       cases h
       simp only [Yu, e2, e31, e33, e35]
       rw [Jn]
       simp [*]
      ·obtain ⟨h90, h⟩ := ifS h
       have f89 := fun g0 H y => @Yn _ _ Xc _ (FS.lst l32) 0 8 h90 (by decide) g0 H 1005004 0 3 y
       simp only [Xc] at f89
       obtain ⟨h92, h⟩ := ifS h
       have f91 := fun g0 H y => @Yn _ _ Xc _ (FS.lst l34) 0 8 h92 (by decide) g0 H 1005005 0 3 y
       simp only [Xc] at f91
       cases h
       simp only [Yu, e2, e31, e33, e35]
       rw [Jn]
       simp [*]
     ·cases h
      simp only [Yu, Jaa, e2, e31, e33, e35]
      rw [Jn]
      simp [*]) bigN s r h
def Ja7 (p0 : Ja) (p1 : (FS Jd)) : Option (Xb × (FS Jd)) := (J3 (Ky (zq p1 (⟨(⟨0, 0⟩ : Ja), (FS.nil : (FS (A2 Ja))), (FS.nil : (FS (A2 Ja))), (FS.nil : (FS Int)), (FS.nil : (FS Int))⟩ : Xb) (flen p1)) bigN ((⟨p0, (FS.nil : (FS (A2 Ja))), (FS.nil : (FS (A2 Ja))), (FS.nil : (FS Int)), (FS.nil : (FS Int))⟩ : Xb), 0)) fun v57 => (if (band (beqB (fnl v57.a) (fnl v57.b)) (band (beqB (fnl v57.a) (fnl v57.ahead)) (beqB (fnl v57.a) (fnl v57.aback)))) = true then some ((⟨v57.from_, v57.a, v57.b, v57.ahead, v57.aback⟩ : Xb), p1)
 else none))
theorem Jkj {p0} {p1} {r} (h : Ja7 p0 p1 = some r) : FC env 60 [.agg [.int .i64 p0.X, .int .i64 p0.Y], .arr 1 0 0 p1.l.length] (some (hl [(1, .arr 0 3 50 (Jp Jh p1.l) false)], 0)) = some (.agg [.int .i64 r.1.from_.X, .int .i64 r.1.from_.Y, encF J7 r.1.a, encF J7 r.1.b, encF Xc r.1.ahead, encF Xc r.1.aback], hl [(1, .arr 0 3 50 (Jp Jh r.2.l) false)]) ∧ r.2 = p1 := by
 unfold Ja7 at h
 obtain ⟨v94, h93, h⟩ := oS h
 have f95 := Jio h93
 simp only [Yu, Jaa, J5] at f95
 obtain ⟨h96, h⟩ := ifS h
 cases e98 : v94.a with
 | nil =>
  try simp only [e98, Jr] at h
  cases e100 : v94.b with
  | nil =>
   try simp only [e100, Jr] at h
   cases e102 : v94.ahead with
   | nil =>
    try simp only [e102, Jr] at h
    cases e104 : v94.aback with
    | nil =>
     try simp only [e104, Jr] at h
     simp only [e98, e100, e102, e104, Jr, Jj, Jk] at f95
     cases h
     refine ⟨?_, rfl⟩
     refine j7 (lf := lf60) rfl rfl rfl ?_
     simp only [lf60, lc60]
     simp [*]
    | lst l103 =>
     exact absurd h96 (by simp [e98, e104])
   | lst l101 =>
    exact absurd h96 (by simp [e98, e102])
  | lst l99 =>
   exact absurd h96 (by simp [e98, e100])
 | lst l97 =>
  try simp only [e98] at h
  cases e106 : v94.b with
  | nil =>
   exact absurd h96 (by simp [e98, e106])
  | lst l105 =>
   try simp only [e106] at h
   cases e108 : v94.ahead with
   | nil =>
    exact absurd h96 (by simp [e98, e108])
   | lst l107 =>
    try simp only [e108] at h
    cases e110 : v94.aback with
    | nil =>
     exact absurd h96 (by simp [e98, e110])
    | lst l109 =>
     try simp only [e110] at h
     simp only [e98, e106, e108, e110, Jr, Jj, Jk] at f95
     cases h
     refine ⟨?_, rfl⟩
     refine j7 (lf := lf60) rfl rfl rfl ?_
     simp only [lf60, lc60]
     simp [*, Jrr, Jnb, jk, Yx, jn, Yw, jl, Jhk (e := J7) (el := 107) (fz := false), Jhk (e := J7) (el := 107) (fz := false), Jhk (e := Xc) (el := 3) (fz := false), Jhk (e := Xc) (el := 3) (fz := false)]
theorem Jj2 {p0 : Ja} {r : (Xb × (FS Jd))} (h : Ja7 p0 (FS.nil : (FS Jd)) = some r) : FC env 60 [.agg [.int .i64 p0.X, .int .i64 p0.Y], .nils] (some (hl [], 0)) = some (.agg [.int .i64 r.1.from_.X, .int .i64 r.1.from_.Y, encF J7 r.1.a, encF J7 r.1.b, encF Xc r.1.ahead, encF Xc r.1.aback], hl []) ∧ r.2 = FS.nil := by
  have h2 := (rfl : Ja7 p0 (FS.nil : (FS Jd)) = some _)
  rw [h2] at h
  cases h
  exact ⟨Jge.2 ⟨60, by kernel_rfl⟩, rfl⟩
attribute [simp] c76_0 c76_1 c76_2 c76_3 c76_4 c76_5 c76_6 c76_7 c76_8 c76_9
def Jbn (p0 : Xb) (p1 : Int) (p2 : Int) : Option Bool := (if (igt p1 0) = true then (J3 (fget p0.a (isub .i64 p1 1)) fun v4 => (J3 (fget p0.a p1) fun v7 => (J3 (fget p0.ahead p2) fun v11 => (J3 (fget p0.ahead p1) fun v14 => (J3 (fget p0.b p2) fun v17 => (J3 (fget p0.aback p2) fun v21 => (J3 (fget p0.aback p1) fun v24 => (if (ilt (iadd .i64 p2 1) (flen p0.a)) = true then (J3 (fget p0.a p2) fun v28 => (J3 (fget p0.a (iadd .i64 p2 1)) fun v31 => (J3 (fget p0.b p1) fun v35 => some (ilt (iadd .i64 (isub .i64 (iadd .i64 (Km v4.a1 v17.a0) v21) v24) (Km v35.a1 v31.a0)) (iadd .i64 (isub .i64 (iadd .i64 (Km v4.a1 v7.a0) v11) v14) (Km v28.a1 v31.a0))))))
 else some (ilt (isub .i64 (iadd .i64 (Km v4.a1 v17.a0) v21) v24) (isub .i64 (iadd .i64 (Km v4.a1 v7.a0) v11) v14))))))))))
 else (J3 (fget p0.a p1) fun v40 => (J3 (fget p0.ahead p2) fun v44 => (J3 (fget p0.ahead p1) fun v47 => (J3 (fget p0.b p2) fun v50 => (J3 (fget p0.aback p2) fun v54 => (J3 (fget p0.aback p1) fun v57 => (if (ilt (iadd .i64 p2 1) (flen p0.a)) = true then (J3 (fget p0.a p2) fun v61 => (J3 (fget p0.a (iadd .i64 p2 1)) fun v64 => (J3 (fget p0.b p1) fun v68 => some (ilt (iadd .i64 (isub .i64 (iadd .i64 (Km p0.from_ v50.a0) v54) v57) (Km v68.a1 v64.a0)) (iadd .i64 (isub .i64 (iadd .i64 (Km p0.from_ v40.a0) v44) v47) (Km v61.a1 v64.a0))))))
 else some (ilt (isub .i64 (iadd .i64 (Km p0.from_ v50.a0) v54) v57) (isub .i64 (iadd .i64 (Km p0.from_ v40.a0) v44) v47))))))))))
theorem Ji2 {p0} {p1} {p2} {r} (h : Jbn p0 p1 p2 = some r) : FC env 76 [.agg [.int .i64 p0.from_.X, .int .i64 p0.from_.Y, encF J7 p0.a, encF J7 p0.b, encF Xc p0.ahead, encF Xc p0.aback], .int .i64 p1, .int .i64 p2] none = some (.bool r, fun _ => none) := by
 unfold Jbn at h
 rcases ifC h with ⟨c1, h⟩ | ⟨c1, h⟩
 ·obtain ⟨v4, h3, h⟩ := oS h
  have f2 := Kc (e := J7) h3
  obtain ⟨v7, h6, h⟩ := oS h
  have f5 := Kc (e := J7) h6
  have f8 := Zc v4.a1 v7.a0
  obtain ⟨v11, h10, h⟩ := oS h
  have f9 := Kc (e := Xc) h10
  obtain ⟨v14, h13, h⟩ := oS h
  have f12 := Kc (e := Xc) h13
  obtain ⟨v17, h16, h⟩ := oS h
  have f15 := Kc (e := J7) h16
  have f18 := Zc v4.a1 v17.a0
  obtain ⟨v21, h20, h⟩ := oS h
  have f19 := Kc (e := Xc) h20
  obtain ⟨v24, h23, h⟩ := oS h
  have f22 := Kc (e := Xc) h23
  rcases ifC h with ⟨c25, h⟩ | ⟨c25, h⟩
  ·obtain ⟨v28, h27, h⟩ := oS h
   have f26 := Kc (e := J7) h27
   obtain ⟨v31, h30, h⟩ := oS h
   have f29 := Kc (e := J7) h30
   have f32 := Zc v28.a1 v31.a0
   obtain ⟨v35, h34, h⟩ := oS h
   have f33 := Kc (e := J7) h34
   have f37 := Zc v35.a1 v31.a0
   cases h
   refine J4 (lf := lf76) rfl rfl rfl ?_
   simp only [lf76, lc76]
   simp [*]
  ·cases h
   refine J4 (lf := lf76) rfl rfl rfl ?_
   simp only [lf76, lc76]
   simp [*]
 ·obtain ⟨v40, h39, h⟩ := oS h
  have f38 := Kc (e := J7) h39
  have f41 := Zc p0.from_ v40.a0
  obtain ⟨v44, h43, h⟩ := oS h
  have f42 := Kc (e := Xc) h43
  obtain ⟨v47, h46, h⟩ := oS h
  have f45 := Kc (e := Xc) h46
  obtain ⟨v50, h49, h⟩ := oS h
  have f48 := Kc (e := J7) h49
  have f51 := Zc p0.from_ v50.a0
  obtain ⟨v54, h53, h⟩ := oS h
  have f52 := Kc (e := Xc) h53
  obtain ⟨v57, h56, h⟩ := oS h
  have f55 := Kc (e := Xc) h56
  rcases ifC h with ⟨c58, h⟩ | ⟨c58, h⟩
  ·obtain ⟨v61, h60, h⟩ := oS h
   have f59 := Kc (e := J7) h60
   obtain ⟨v64, h63, h⟩ := oS h
   have f62 := Kc (e := J7) h63
   have f65 := Zc v61.a1 v64.a0
   obtain ⟨v68, h67, h⟩ := oS h
   have f66 := Kc (e := J7) h67
   have f70 := Zc v68.a1 v64.a0
   cases h
   refine J4 (lf := lf76) rfl rfl rfl ?_
   simp only [lf76, lc76]
   simp [*]
  ·cases h
   refine J4 (lf := lf76) rfl rfl rfl ?_
   simp only [lf76, lc76]
   simp [*]
attribute [simp] c61_0 c61_1 c61_2 c61_3 c61_4 c61_5 c61_6 c61_7 c61_8 J48 c61_12
theorem c61_L0_u : EC Γ ps 0 Juz σ = EC Γ ps 0 (.seq (.seq (.reg false c61_5) (.cond (.t 18) .skip (.seq (.trim [1, 9, 10]) (.exit 2)))) (.seq (.blk 3 (.seq (.reg false c61_6) (.cond (.t 24) (.seq (.reg false c61_7) (.seq (.trim [2, 3, 4]) .ret)) .skip))) (.reg false c61_8))) σ := rfl
theorem c61_L1_u : EC Γ ps 0 Jz7 σ = EC Γ ps 0 (.seq (.reg false c61_2) (.seq (.cond (.t 11) .skip (.seq (.trim []) (.exit 0))) (.seq (.blk 1 (.seq (.reg false c61_3) (.seq (.reg false c61_4) (.blk 2 (.loop [1, 5, 6, 9, 10] Juz))))) (.reg false J48)))) σ := rfl
attribute [simp ↓] c61_L0_u c61_L1_u
def Zg (k0 : Xb) (k1 : Int) (k2 : Int) (k3 : Int) (s : Int) : Option (LR Int ((Int × Int × Bool) ⊕ Unit)) := match s with
 | s0 => (if (ilt s0 (flen k0.a)) = true then (J3 (Jbn k0 k1 s0) fun v5 => (if v5 = true then some (.dn (.inl (k1, s0, true)))
 else some (.nx (iadd .i64 s0 1))))
 else some (.dn (.inr ())))
def Y3 (k0 : Xb) (k1 : Int) (k2 : Int) (k3 : Int) (s : Int) : St := match s with
 | s0 => ⟨fr [(1, .ptr 1 0 0), (5, .int .i64 k1), (6, .int .i64 s0), (9, .int .i64 k2), (10, .int .i64 k3)], hl [(1, .box 0 [.int .i64 k0.from_.X, .int .i64 k0.from_.Y, encF J7 k0.a, encF J7 k0.b, encF Xc k0.ahead, encF Xc k0.aback])]⟩
def Zw (k0 : Xb) (k1 : Int) (k2 : Int) (k3 : Int) (x : ((Int × Int × Bool) ⊕ Unit)) : LE × St := match x with
 | .inl x => (.ret, ⟨fr [(2, .int .i64 x.1), (3, .int .i64 x.2.1), (4, .bool x.2.2)], hl []⟩)
 | .inr x => (.exit 2, ⟨fr [(1, .ptr 1 0 0), (9, .int .i64 k2), (10, .int .i64 k3)], hl [(1, .box 0 [.int .i64 k0.from_.X, .int .i64 k0.from_.Y, encF J7 k0.a, encF J7 k0.b, encF Xc k0.ahead, encF Xc k0.aback])]⟩)
theorem Jho {k0} {k1} {k2} {k3} {s} {r} (h : Ky (Zg k0 k1 k2 k3) bigN s = some r) : LK env [] 0 [1, 5, 6, 9, 10] Juz (some (Y3 k0 k1 k2 k3 s)) = some (Zw k0 k1 k2 k3 r) := Kt (st := Y3 k0 k1 k2 k3) (out := Zw k0 k1 k2 k3) (by
 clear h s r
 rintro s0 x h
 simp only [Zg] at h
 rcases ifC h with ⟨c2, h⟩ | ⟨c2, h⟩
 ·obtain ⟨v5, h4, h⟩ := oS h
  have f3 := Ji2 h4
  rcases ifC h with ⟨c6, h⟩ | ⟨c6, h⟩
  ·cases h
   simp only [Y3, Zw]
   rw [Jn]
   simp [*]
  ·cases h
   simp only [Y3]
   rw [Jn]
   simp [*]
 ·cases h
  simp only [Y3, Zw]
  rw [Jn]
  simp [*]) bigN s r h
def jo (k0 : Xb) (k1 : Int) (s : Int) : Option (LR Int ((Int × Int × Bool) ⊕ Unit)) := match s with
 | s0 => (if (ilt s0 k1) = true then (J3 (Ky (Zg k0 s0 k1 s0) bigN s0) fun v8 => (match v8 with
 | .inl v8x => some (.dn (.inl (v8x.1, v8x.2.1, v8x.2.2)))
 | .inr v8x => some (.nx (iadd .i64 s0 1))))
 else some (.dn (.inr ())))
def Yy (k0 : Xb) (k1 : Int) (s : Int) : St := match s with
 | s0 => ⟨fr [(1, .ptr 1 0 0), (9, .int .i64 k1), (10, .int .i64 s0)], hl [(1, .box 0 [.int .i64 k0.from_.X, .int .i64 k0.from_.Y, encF J7 k0.a, encF J7 k0.b, encF Xc k0.ahead, encF Xc k0.aback])]⟩
def Zr (k0 : Xb) (k1 : Int) (x : ((Int × Int × Bool) ⊕ Unit)) : LE × St := match x with
 | .inl x => (.ret, ⟨fr [(2, .int .i64 x.1), (3, .int .i64 x.2.1), (4, .bool x.2.2)], hl []⟩)
 | .inr x => (.exit 0, ⟨fr [], hl []⟩)
theorem Jh1 {k0} {k1} {s} {r} (h : Ky (jo k0 k1) bigN s = some r) : LK env [] 0 [1, 9, 10] Jz7 (some (Yy k0 k1 s)) = some (Zr k0 k1 r) := Kt (st := Yy k0 k1) (out := Zr k0 k1) (by
 clear h s r
 rintro s0 x h
 simp only [jo] at h
 rcases ifC h with ⟨c1, h⟩ | ⟨c1, h⟩
 ·obtain ⟨v8, h7, h⟩ := oS h
  have f9 := Jho h7
  cases v8 with
  | inl v8x =>
   try simp only at h
   simp only [Y3, Zw, J5] at f9
   try simp only [Jj, Jk, Jq, Jv, Jt, Jx, Jw, Ju] at f9
   cases h
   simp only [Yy, Zr]
   rw [Jn]
   try simp only [c1] at f9
   simp [*]
  | inr v8x =>
   try simp only at h
   simp only [Y3, Zw, J5] at f9
   try simp only [Jj, Jk, Jq, Jv, Jt, Jx, Jw, Ju] at f9
   cases h
   simp only [Yy]
   rw [Jn]
   try simp only [c1] at f9
   simp [*]
 ·cases h
  simp only [Yy, Zr]
  rw [Jn]
  simp [*]) bigN s r h
def Ja6 (p0 : Xb) : Option (Int × Int × Bool) := (J3 (Ky (jo p0 (flen p0.a)) bigN 0) fun v11 => (match v11 with
 | .inl v11x => some (v11x.1, v11x.2.1, v11x.2.2)
 | .inr v11x => some (0, 0, false)))
theorem Je2 {p0} {r} (h : Ja6 p0 = some r) : FC env 61 [.agg [.int .i64 p0.from_.X, .int .i64 p0.from_.Y, encF J7 p0.a, encF J7 p0.b, encF Xc p0.ahead, encF Xc p0.aback]] none = some (.tup [.int .i64 r.1, .int .i64 r.2.1, .bool r.2.2], fun _ => none) := by
 unfold Ja6 at h
 obtain ⟨v13, h12, h⟩ := oS h
 have f14 := Jh1 h12
 cases v13 with
 | inl v13x =>
  try simp only at h
  simp only [Yy, Zr, J5] at f14
  try simp only [Jj, Jk, Jq, Jv, Jt, Jx, Jw, Ju] at f14
  cases h
  refine J4 (lf := lf61) rfl rfl rfl ?_
  simp only [lf61, lc61]
  simp [*, zb, tupS, jk, Yx, jn, Yw, jl]
 | inr v13x =>
  try simp only at h
  simp only [Yy, Zr, J5] at f14
  try simp only [Jj, Jk, Jq, Jv, Jt, Jx, Jw, Ju] at f14
  cases h
  refine J4 (lf := lf61) rfl rfl rfl ?_
  simp only [lf61, lc61]
  simp [*, zb, tupS, jk, Yx, jn, Yw, jl]
attribute [simp] c42_0 c42_1 c42_2 c42_3 c42_4 c42_5 c42_6 c42_7 c42_8 c42_9 J0x J5k J5u Jzi J2h J3m Jxo J4w c42_21
theorem c42_L0_u : EC Γ ps 0 Juu σ = EC Γ ps 0 (.seq (.seq (.reg false c42_9) (.cond (.t 40) .skip (.seq (.trim [3, 7, 8, 9, 10]) (.exit 2)))) (.seq (.blk 3 (.reg true J0x)) (.reg false J5k))) σ := rfl
theorem c42_L1_u : EC Γ ps 0 Juy σ = EC Γ ps 0 (.seq (.seq (.reg false Jzi) (.cond (.t 62) .skip (.seq (.trim [3, 7, 8]) (.exit 4)))) (.seq (.blk 5 (.seq (.reg false J2h) (.cond (.t 70) (.reg false J3m) .skip))) (.reg false Jxo))) σ := rfl
theorem c42_L2_u : EC Γ ps 0 J35 σ = EC Γ ps 0 (.seq (.seq (.reg false c42_5) (.cond (.t 23) .skip (.seq (.trim [7]) (.exit 0)))) (.seq (.blk 1 (.seq (.reg false c42_6) (.seq (.seq (.reg false c42_7) (.cond (.t 35) (.seq (.trim [7]) (.exit 0)) .skip)) (.seq (.seq (.reg false c42_8) (.blk 2 (.loop [3, 7, 8, 9, 10, 12, 13] Juu))) (.seq (.reg false J5u) (.blk 4 (.loop [3, 7, 8, 10, 14] Juy))))))) (.reg false J4w))) σ := rfl
attribute [simp ↓] c42_L0_u c42_L1_u c42_L2_u
def zt (k0 : Ja) (k1 : Int) (k2 : Int) (k3 : Int) (s : ((FS Jd) × Int × Int)) : Option (LR ((FS Jd) × Int × Int) (FS Jd)) := match s with
 | (s0, s1, s2) => (if (ilt s1 s2) = true then (J3 (fget s0 s2) fun v17 => (J3 (fget s0 s1) fun v21 => (J3 (fget (fset s0 s1 v17) s2) fun v28 => some (.nx ((fset (fset s0 s1 v17) s2 v21), (iadd .i64 s1 1), (isub .i64 s2 1))))))
 else some (.dn s0))
def jc (k0 : Ja) (k1 : Int) (k2 : Int) (k3 : Int) (s : ((FS Jd) × Int × Int)) : St := match s with
 | (s0, s1, s2) => (zo s0 (⟨fr [(3, .ptr 3 0 0), (7, .nils), (8, .int .i64 k1), (9, .int .i64 k2), (10, .int .i64 k3), (12, .int .i64 s1), (13, .int .i64 s2)], hl [(3, .box 0 [.int .i64 k0.X, .int .i64 k0.Y])]⟩)
  (fun l0 => ⟨fr [(3, .ptr 3 0 0), (7, .arr 7 0 0 l0.l.length), (8, .int .i64 k1), (9, .int .i64 k2), (10, .int .i64 k3), (12, .int .i64 s1), (13, .int .i64 s2)], hl [(3, .box 0 [.int .i64 k0.X, .int .i64 k0.Y]), (7, .arr 0 3 50 (Jp Jh l0.l) false)]⟩))
def jt (k0 : Ja) (k1 : Int) (k2 : Int) (k3 : Int) (x : (FS Jd)) : LE × St := (zo x (.exit 2, ⟨fr [(3, .ptr 3 0 0), (7, .nils), (8, .int .i64 k1), (9, .int .i64 k2), (10, .int .i64 k3)], hl [(3, .box 0 [.int .i64 k0.X, .int .i64 k0.Y])]⟩)
  (fun l0 => (.exit 2, ⟨fr [(3, .ptr 3 0 0), (7, .arr 7 0 0 l0.l.length), (8, .int .i64 k1), (9, .int .i64 k2), (10, .int .i64 k3)], hl [(3, .box 0 [.int .i64 k0.X, .int .i64 k0.Y]), (7, .arr 0 3 50 (Jp Jh l0.l) false)]⟩)))
theorem Jen {k0} {k1} {k2} {k3} {s} {r} (h : Ky (zt k0 k1 k2 k3) bigN s = some r) : LK env [] 0 [3, 7, 8, 9, 10, 12, 13] Juu (some (jc k0 k1 k2 k3 s)) = some (jt k0 k1 k2 k3 r) := Kt (st := jc k0 k1 k2 k3) (out := jt k0 k1 k2 k3) (by
 clear h s r
 rintro ⟨s0, s1, s2⟩ x h
 simp only [zt] at h
 cases e25 : s0 with
 | nil =>
  try simp only [e25, Jr] at h
  rcases ifC h with ⟨c26, h⟩ | ⟨c26, h⟩
  ·exact absurd h (by simp [Jcg])
  ·cases h
   simp only [jc, jt, e25]
   rw [Jn]
   simp [*]
 | lst l24 =>
  try simp only [e25] at h
  rcases ifC h with ⟨c27, h⟩ | ⟨c27, h⟩
  ·obtain ⟨v31, h30, h⟩ := oS h
   have f28 := Qa (w := 3) h30
   have f29 := h30
   have f32 := (X1 (e := Jh) f29 true 3 (by decide) (by decide))
   simp only [Jh] at f32
   obtain ⟨v36, h35, h⟩ := oS h
   have f33 := Qa (w := 3) h35
   have f34 := h35
   have f37 := (X1 (e := Jh) f34 true 3 (by decide) (by decide))
   simp only [Jh] at f37
   have f40 := @Jda _ _ Jh _ (FS.lst l24) s1 v36 v31 f34 [.int .i64 v31.Role, .bool v31.Closed, encF Je v31.Cells] (by simp) (by simp [Jh])
   have f41 := Jhp (w := 3) f34 3 (by decide)
   try simp at f41
   obtain ⟨v45, h44, h⟩ := oS h
   have f42 := Qa (w := 3) h44
   try simp only [J5] at f42
   have f43 := h44
   have f46 := @Jda _ _ Jh _ (fset (FS.lst l24) s1 v31) s2 v45 v36 f43 [.int .i64 v36.Role, .bool v36.Closed, encF Je v36.Cells] (by simp) (by simp [Jh])
   have f47 := Jhp (w := 3) f43 3 (by decide)
   try simp at f47
   cases h
   simp only [jc, e25]
   rw [Jn]
   simp [*]
  ·cases h
   simp only [jc, jt, e25]
   rw [Jn]
   simp [*]) bigN s r h
def jr (k0 : Ja) (k1 : Int) (k2 : Int) (s : ((FS Jd) × Int)) : Option (LR ((FS Jd) × Int) (FS Jd)) := match s with
 | (s0, s1) => (if (ile s1 k2) = true then (J3 (fget s0 s1) fun v37 => (if (bnot v37.Closed) = true then (J3 (Jb5 v37) fun v44 => some (.nx ((fset s0 s1 v44), (iadd .i64 s1 1))))
 else some (.nx (s0, (iadd .i64 s1 1)))))
 else some (.dn s0))
def Qy (k0 : Ja) (k1 : Int) (k2 : Int) (s : ((FS Jd) × Int)) : St := match s with
 | (s0, s1) => (zo s0 (⟨fr [(3, .ptr 3 0 0), (7, .nils), (8, .int .i64 k1), (10, .int .i64 k2), (14, .int .i64 s1)], hl [(3, .box 0 [.int .i64 k0.X, .int .i64 k0.Y])]⟩)
  (fun l0 => ⟨fr [(3, .ptr 3 0 0), (7, .arr 7 0 0 l0.l.length), (8, .int .i64 k1), (10, .int .i64 k2), (14, .int .i64 s1)], hl [(3, .box 0 [.int .i64 k0.X, .int .i64 k0.Y]), (7, .arr 0 3 50 (Jp Jh l0.l) false)]⟩))
def X5 (k0 : Ja) (k1 : Int) (k2 : Int) (x : (FS Jd)) : LE × St := (zo x (.exit 4, ⟨fr [(3, .ptr 3 0 0), (7, .nils), (8, .int .i64 k1)], hl [(3, .box 0 [.int .i64 k0.X, .int .i64 k0.Y])]⟩)
  (fun l0 => (.exit 4, ⟨fr [(3, .ptr 3 0 0), (7, .arr 7 0 0 l0.l.length), (8, .int .i64 k1)], hl [(3, .box 0 [.int .i64 k0.X, .int .i64 k0.Y]), (7, .arr 0 3 50 (Jp Jh l0.l) false)]⟩)))
theorem Jbo {k0} {k1} {k2} {s} {r} (h : Ky (jr k0 k1 k2) bigN s = some r) : LK env [] 0 [3, 7, 8, 10, 14] Juy (some (Qy k0 k1 k2 s)) = some (X5 k0 k1 k2 r) := Kt (st := Qy k0 k1 k2) (out := X5 k0 k1 k2) (by
 clear h s r
 rintro ⟨s0, s1⟩ x h
 simp only [jr] at h
 cases e55 : s0 with
 | nil =>
  try simp only [e55, Jr] at h
  rcases ifC h with ⟨c56, h⟩ | ⟨c56, h⟩
  ·exact absurd h (by simp [Jcg])
  ·cases h
   simp only [Qy, X5, e55]
   rw [Jn]
   simp [*]
 | lst l54 =>
  try simp only [e55] at h
  rcases ifC h with ⟨c57, h⟩ | ⟨c57, h⟩
  ·obtain ⟨v61, h60, h⟩ := oS h
   have f58 := Qa (w := 3) h60
   have f59 := h60
   have f62 := (Jgd (e := Jh) f59 false 1 1 (by decide) (by decide))
   simp only [Jh] at f62
   rcases ifC h with ⟨c63, h⟩ | ⟨c63, h⟩
   ·have f66 := (X1 (e := Jh) f59 true 3 (by decide) (by decide))
    simp only [Jh] at f66
    obtain ⟨v69, h68, h⟩ := oS h
    have f67 := Jgm h68
    have f72 := @Jda _ _ Jh _ (FS.lst l54) s1 v61 v69 f59 [.int .i64 v69.Role, .bool v69.Closed, encF Je v69.Cells] (by simp) (by simp [Jh])
    have f73 := Jhp (w := 3) f59 3 (by decide)
    try simp at f73
    cases h
    simp only [Qy, e55]
    rw [Jn]
    rcases tof v61.Closed with a74 | a74
    ·simp [c57, a74] at c63
    ·try simp only [a74] at f58 f62 f66 f67 f72 f73
     simp [*]
   ·cases h
    simp only [Qy, e55]
    rw [Jn]
    rcases tof v61.Closed with a75 | a75
    ·try simp only [a75] at f58 f62
     simp [*]
    ·simp [c57, a75] at c63
  ·cases h
   simp only [Qy, X5, e55]
   rw [Jn]
   simp [*]) bigN s r h
def jq (k0 : Ja) (s : ((FS Jd) × Int)) : Option (LR ((FS Jd) × Int) (FS Jd)) := match s with
 | (s0, s1) => (if (igt s1 0) = true then (J3 (Ja7 k0 s0) fun v8 => (if ieq (flen v8.2) (flen s0) = true then (J3 (Ja6 v8.1) fun v12 => (if (bnot v12.2.2) = true then some (.dn v8.2)
 else (J3 (Ky (zt k0 s1 v12.1 v12.2.1) bigN (v8.2, v12.1, v12.2.1)) fun v32 => (J3 (Ky (jr k0 s1 v12.2.1) bigN (v32, v12.1)) fun v49 => some (.nx (v49, (isub .i64 s1 1))))))) else none))
 else some (.dn s0))
def Ks (k0 : Ja) (s : ((FS Jd) × Int)) : St := match s with
 | (s0, s1) => (zo s0 (⟨fr [(3, .ptr 3 0 0), (7, .nils), (8, .int .i64 s1)], hl [(3, .box 0 [.int .i64 k0.X, .int .i64 k0.Y])]⟩)
  (fun l0 => ⟨fr [(3, .ptr 3 0 0), (7, .arr 7 0 0 l0.l.length), (8, .int .i64 s1)], hl [(3, .box 0 [.int .i64 k0.X, .int .i64 k0.Y]), (7, .arr 0 3 50 (Jp Jh l0.l) false)]⟩))
def X4 (k0 : Ja) (x : (FS Jd)) : LE × St := (zo x (.exit 0, ⟨fr [(7, .nils)], hl []⟩)
  (fun l0 => (.exit 0, ⟨fr [(7, .arr 7 0 0 l0.l.length)], hl [(7, .arr 0 3 50 (Jp Jh l0.l) false)]⟩)))
theorem Jer {k0} {s} {r} (h : Ky (jq k0) bigN s = some r) : LK env [] 0 [3, 7, 8] J35 (some (Ks k0 s)) = some (X4 k0 r) := Kt (st := Ks k0) (out := X4 k0) (by
 clear h s r
 rintro ⟨s0, s1⟩ x h
 simp only [jq] at h
 cases e11 : s0 with
 | nil =>
  try simp only [e11, Jr] at h
  rcases ifC h with ⟨c12, h⟩ | ⟨c12, h⟩
  ·obtain ⟨v14, h13, h⟩ := oS h
   obtain ⟨f15, e16⟩ := Jj2 h13
   simp only [e16, Jr] at h
   try simp only [J5, K4, Jj, Jk, Jq, Jv, Jt, Jx, Jw, Ju] at f15
   obtain ⟨h17, h⟩ := ifS h
   try simp only [Jj, Jk, Jq, Jv, Jt, Jx, Jw, Ju] at f15
   obtain ⟨v21, h20, h⟩ := oS h
   have f19 := Je2 h20
   rcases ifC h with ⟨c22, h⟩ | ⟨c22, h⟩
   ·cases h
    simp only [Ks, X4, e11]
    rw [Jn]
    rcases tof v21.2.2 with a23 | a23
    ·simp [c12, a23] at c22
    ·try simp only [c12, a23] at f15
     simp [*]
   ·obtain ⟨v49, h48, h⟩ := oS h
    have f50 := Jen h48
    simp only [jc, jt, J5] at f50
    cases e53 : v49 with
    | nil =>
     try simp only [e53, Jr] at h
     simp only [e53, Jr, Jj, Jk] at f50
     obtain ⟨v77, h76, h⟩ := oS h
     have f78 := Jbo h76
     simp only [Qy, X5, J5] at f78
     cases e81 : v77 with
     | nil =>
      try simp only [e81, Jr] at h
      simp only [e81, Jr, Jj, Jk] at f78
      cases h
      simp only [Ks, e11]
      rw [Jn]
      rcases tof v21.2.2 with a82 | a82
      ·try simp only [c12, a82] at f15 f50 f78
       simp [*]
      ·simp [c12, a82] at c22
     | lst l80 =>
      try simp only [e81] at h
      simp only [e81, Jr, Jj, Jk] at f78
      cases h
      simp only [Ks, e11]
      rw [Jn]
      rcases tof v21.2.2 with a83 | a83
      ·try simp only [c12, a83] at f15 f50 f78
       simp [*]
      ·simp [c12, a83] at c22
    | lst l52 =>
     try simp only [e53] at h
     simp only [e53, Jr, Jj, Jk] at f50
     obtain ⟨v85, h84, h⟩ := oS h
     have f86 := Jbo h84
     simp only [Qy, X5, J5] at f86
     cases e89 : v85 with
     | nil =>
      try simp only [e89, Jr] at h
      simp only [e89, Jr, Jj, Jk] at f86
      cases h
      simp only [Ks, e11]
      rw [Jn]
      rcases tof v21.2.2 with a90 | a90
      ·try simp only [c12, a90] at f15 f50 f86
       simp [*]
      ·simp [c12, a90] at c22
     | lst l88 =>
      try simp only [e89] at h
      simp only [e89, Jr, Jj, Jk] at f86
      cases h
      simp only [Ks, e11]
      rw [Jn]
      rcases tof v21.2.2 with a91 | a91
      ·try simp only [c12, a91] at f15 f50 f86
       simp [*]
      ·simp [c12, a91] at c22
  ·cases h
   simp only [Ks, X4, e11]
   rw [Jn]
   simp [*]
 | lst l10 =>
  try simp only [e11] at h
  rcases ifC h with ⟨c92, h⟩ | ⟨c92, h⟩
  ·obtain ⟨v94, h93, h⟩ := oS h
   obtain ⟨f95, e96⟩ := Jkj h93
   simp only [e96] at f95
   try simp only [e96] at h
   try simp only [J5, K4, Jj, Jk, Jq, Jv, Jt, Jx, Jw, Ju] at f95
   obtain ⟨h97, h⟩ := ifS h
   try simp only [Jj, Jk, Jq, Jv, Jt, Jx, Jw, Ju] at f95
   have f99 : ∀ H : Heap, H 7 = some (.arr 0 3 50 (Jp Jh (FS.lst l10).l) false) → Jak (FC env) 60 H [.agg [.int .i64 k0.X, .int .i64 k0.Y], .arr 7 0 0 (FS.lst l10).l.length] = some (.agg [.int .i64 v94.1.from_.X, .int .i64 v94.1.from_.Y, encF J7 v94.1.a, encF J7 v94.1.b, encF Xc v94.1.ahead, encF Xc v94.1.aback], upd H 7 (some (.arr 0 3 50 (Jp Jh (FS.lst l10).l) false))) := by
     intro H q0
     simp [*, q0]
   obtain ⟨v102, h101, h⟩ := oS h
   have f100 := Je2 h101
   rcases ifC h with ⟨c103, h⟩ | ⟨c103, h⟩
   ·cases h
    simp only [Ks, X4, e11]
    rw [Jn]
    rcases tof v102.2.2 with a104 | a104
    ·simp [c92, a104] at c103
    ·try simp only [c92, a104] at f95
     simp [*, -Qr]
   ·obtain ⟨v106, h105, h⟩ := oS h
    have f107 := Jen h105
    simp only [jc, jt, J5] at f107
    cases e110 : v106 with
    | nil =>
     try simp only [e110, Jr] at h
     simp only [e110, Jr, Jj, Jk] at f107
     obtain ⟨v112, h111, h⟩ := oS h
     have f113 := Jbo h111
     simp only [Qy, X5, J5] at f113
     cases e116 : v112 with
     | nil =>
      try simp only [e116, Jr] at h
      simp only [e116, Jr, Jj, Jk] at f113
      cases h
      simp only [Ks, e11]
      rw [Jn]
      rcases tof v102.2.2 with a117 | a117
      ·try simp only [c92, a117] at f95 f107 f113
       simp [*, -Qr]
      ·simp [c92, a117] at c103
     | lst l115 =>
      try simp only [e116] at h
      simp only [e116, Jr, Jj, Jk] at f113
      cases h
      simp only [Ks, e11]
      rw [Jn]
      rcases tof v102.2.2 with a118 | a118
      ·try simp only [c92, a118] at f95 f107 f113
       simp [*, -Qr]
      ·simp [c92, a118] at c103
    | lst l109 =>
     try simp only [e110] at h
     simp only [e110, Jr, Jj, Jk] at f107
     obtain ⟨v120, h119, h⟩ := oS h
     have f121 := Jbo h119
     simp only [Qy, X5, J5] at f121
     cases e124 : v120 with
     | nil =>
      try simp only [e124, Jr] at h
      simp only [e124, Jr, Jj, Jk] at f121
      cases h
      simp only [Ks, e11]
      rw [Jn]
      rcases tof v102.2.2 with a125 | a125
      ·try simp only [c92, a125] at f95 f107 f121
       simp [*, -Qr]
      ·simp [c92, a125] at c103
     | lst l123 =>
      try simp only [e124] at h
      simp only [e124, Jr, Jj, Jk] at f121
      cases h
      simp only [Ks, e11]
      rw [Jn]
      rcases tof v102.2.2 with a126 | a126
      ·try simp only [c92, a126] at f95 f107 f121
       simp [*, -Qr]
      ·simp [c92, a126] at c103
  ·cases h
   simp only [Ks, X4, e11]
   rw [Jn]
   simp [*]) bigN s r h
def Jb4 (p0 : Ja) (p1 : (FS Jd)) (p2 : Int) : Option (FS Jd) := (if (bnot (Qz p0)) = true then some (FS.nil : (FS Jd))
 else (J3 (Jdb p1) fun v4 => (J3 (Ky (jq p0) bigN (v4, (imin p2 64))) fun v52 => some v52)))
theorem Jgi {p0} {p1} {p2} {r} (h : Jb4 p0 p1 p2 = some r) : FC env 42 [.agg [.int .i64 p0.X, .int .i64 p0.Y], encF Jh p1, .int .i64 p2] none = some (encF Jh r, fun _ => none) := by
 unfold Jb4 at h
 have f1 := Jg4 p0
 rcases ifC h with ⟨c2, h⟩ | ⟨c2, h⟩
 ·cases h
  refine J4 (lf := lf42) rfl rfl rfl ?_
  simp only [lf42, lc42]
  rcases tof (Qz p0) with a3 | a3
  ·simp [a3] at c2
  ·simp [*]
 ·obtain ⟨v5, h4, h⟩ := oS h
  have f6 := Jh8 h4
  cases e8 : v5 with
  | nil =>
   try simp only [e8, Jr] at h
   simp only [e8, Jr, Jj, Jk] at f6
   have f9 : ∀ H : Heap, Jak (FC env) 59 H [encF Jh p1] = some (.nils, H) := by
     intro H 
     simp [*]
   obtain ⟨v128, h127, h⟩ := oS h
   have f129 := Jer h127
   simp only [Ks, X4, J5] at f129
   cases e132 : v128 with
   | nil =>
    try simp only [e132, Jr] at h
    simp only [e132, Jr, Jj, Jk] at f129
    cases h
    refine J4 (lf := lf42) rfl rfl rfl ?_
    simp only [lf42, lc42]
    rcases tof (Qz p0) with a133 | a133
    ·try simp only [a133] at f6 f129
     simp [*, -Qr]
    ·simp [a133] at c2
   | lst l131 =>
    try simp only [e132] at h
    simp only [e132, Jr, Jj, Jk] at f129
    cases h
    refine J4 (lf := lf42) rfl rfl rfl ?_
    simp only [lf42, lc42]
    rcases tof (Qz p0) with a134 | a134
    ·try simp only [a134] at f6 f129
     simp [*, -Qr, Qm (e := Jh) (el := 50) (fz := false)]
    ·simp [a134] at c2
  | lst l7 =>
   try simp only [e8] at h
   simp only [e8, Jr, Jj, Jk] at f6
   have f135 : ∀ H : Heap, H 701059000 = none → Jak (FC env) 59 H [encF Jh p1] = some (.arr 701059000 0 0 (FS.lst l7).l.length, upd H 701059000 (some (.arr 0 3 50 (Jp Jh (FS.lst l7).l) false))) := by
     intro H q0
     simp [*, q0]
   obtain ⟨v137, h136, h⟩ := oS h
   have f138 := Jer h136
   simp only [Ks, X4, J5] at f138
   cases e141 : v137 with
   | nil =>
    try simp only [e141, Jr] at h
    simp only [e141, Jr, Jj, Jk] at f138
    cases h
    refine J4 (lf := lf42) rfl rfl rfl ?_
    simp only [lf42, lc42]
    rcases tof (Qz p0) with a142 | a142
    ·try simp only [a142] at f6 f138
     simp [*, -Qr]
    ·simp [a142] at c2
   | lst l140 =>
    try simp only [e141] at h
    simp only [e141, Jr, Jj, Jk] at f138
    cases h
    refine J4 (lf := lf42) rfl rfl rfl ?_
    simp only [lf42, lc42]
    rcases tof (Qz p0) with a143 | a143
    ·try simp only [a143] at f6 f138
     simp [*, -Qr, Qm (e := Jh) (el := 50) (fz := false)]
    ·simp [a143] at c2
attribute [simp] c67_0 c67_1
def Zs (p0 : Jo) (p1 : Int) : Option Int := (if ieq p0.s.Pitch 0 = true then none else some (imax (iquo .i64 p1 p0.s.Pitch) 1))
theorem Z2 {p0} {p1} {r} (h : Zs p0 p1 = some r) : FC env 67 [.rptr [encF J2 p0.list.ops, encF Jg p0.r.Rows, .int .i64 p0.s.Pitch, .int .i64 p0.s.Height, .int .i64 p0.s.Walls, .int .i64 p0.s.Top, .int .i64 p0.s.Bottom, .int .i64 p0.s.Pattern, .int .i64 p0.s.Spacing, .bool p0.s.Support, .int .i64 p0.s.Reach, .int .i64 p0.s.Gap, .int .i64 p0.s.Brim, .int .i64 p0.s.Skirt, .int .i64 p0.s.Drop, .int .i64 p0.s.Feed, .int .i64 p0.s.Travel, .int .i64 p0.s.Retract, .int .i64 p0.s.MinTime, .int .i64 p0.s.MinFeed, .int .i64 p0.s.Nozzle, .int .i64 p0.s.Bed, .int .i64 p0.nozzle.X, .int .i64 p0.nozzle.Y], .int .i64 p1] none = some (.int .i64 r, fun _ => none) := by
 unfold Zs at h
 obtain ⟨h1, h⟩ := ifN h
 cases h
 refine J4 (lf := lf67) rfl rfl rfl ?_
 simp only [lf67, lc67]
 simp [*]
attribute [simp] c97_0 c97_1
def Jc5 (p0 : Int) : Bool := (ine p0 p0)
def t_cmp_isNaN (p0 : Int) : Option Bool := some (Jc5 p0)
theorem Jjo (p0 : Int) : FC env 97 [.int .i64 p0] none = some (.bool (Jc5 p0), fun _ => none) := by
 unfold Jc5
 refine J4 (lf := lf97) rfl rfl rfl ?_
 simp only [lf97, lc97]
 simp
attribute [simp] c95_0 c95_1 c95_2 c95_3 c95_4 c95_5 c95_6 c95_7 c95_8 c95_9 c95_10 c95_11 c95_12 c95_13
def Jd3 (p0 : Int) (p1 : Int) : Option Int := (if (Jc5 p0) = true then (if (Jc5 p1) = true then some 0
 else some (-1))
 else (if (Jc5 p1) = true then some 1
 else (if (ilt p0 p1) = true then some (-1)
 else (if (igt p0 p1) = true then some 1
 else some 0))))
theorem Jmb {p0} {p1} {r} (h : Jd3 p0 p1 = some r) : FC env 95 [.int .i64 p0, .int .i64 p1] none = some (.int .i64 r, fun _ => none) := by
 unfold Jd3 at h
 have f1 := Jjo p0
 have f2 := Jjo p1
 rcases ifC h with ⟨c3, h⟩ | ⟨c3, h⟩
 ·rcases ifC h with ⟨c4, h⟩ | ⟨c4, h⟩
  ·cases h
   refine J4 (lf := lf95) rfl rfl rfl ?_
   simp only [lf95, lc95]
   simp [*]
  ·cases h
   refine J4 (lf := lf95) rfl rfl rfl ?_
   simp only [lf95, lc95]
   simp [*]
 ·rcases ifC h with ⟨c5, h⟩ | ⟨c5, h⟩
  ·cases h
   refine J4 (lf := lf95) rfl rfl rfl ?_
   simp only [lf95, lc95]
   simp [*]
  ·rcases ifC h with ⟨c6, h⟩ | ⟨c6, h⟩
   ·cases h
    refine J4 (lf := lf95) rfl rfl rfl ?_
    simp only [lf95, lc95]
    simp [*]
   ·rcases ifC h with ⟨c7, h⟩ | ⟨c7, h⟩
    ·cases h
     refine J4 (lf := lf95) rfl rfl rfl ?_
     simp only [lf95, lc95]
     simp [*]
    ·cases h
     refine J4 (lf := lf95) rfl rfl rfl ?_
     simp only [lf95, lc95]
     simp [*]
attribute [simp] c94_0 c94_1
def Jcl (p0 : Jm) (p1 : Int) : Option Int := (J3 (Jd3 p0.Y p1) fun v3 => some v3)
theorem Jg2 {p0} {p1} {r} (h : Jcl p0 p1 = some r) : FC env 94 [.agg [.int .i64 p0.Y, encF J9 p0.Runs], .int .i64 p1] none = some (.int .i64 r, fun _ => none) := by
 unfold Jcl at h
 obtain ⟨v3, h2, h⟩ := oS h
 have f1 := Jmb h2
 cases h
 refine J4 (lf := lf94) rfl rfl rfl ?_
 simp only [lf94, lc94]
 simp [*]
attribute [simp] c93_0 c93_1 c93_2 c93_3 c93_4 c93_5 c93_6 c93_7 c93_9
theorem c93_L0_u : EC Γ ps 0 J0c σ = EC Γ ps 0 (.seq (.seq (.reg false c93_3) (.cond (.t 17) .skip (.seq (.trim [0, 1, 2, 8, 9]) (.exit 0)))) (.blk 1 (.seq (.reg false c93_4) (.seq (.reg false c93_5) (.cond (.t 31) (.reg false c93_6) (.reg false c93_7)))))) σ := rfl
attribute [simp ↓] c93_L0_u
def Ka (k0 : (FS Jm)) (k1 : Int) (k2 : Int) (s : (Int × Int)) : Option (LR (Int × Int) Int) := match s with
 | (s0, s1) => (if (ilt s0 s1) = true then (J3 (fget k0 (icnv .i64 (ishr .u64 (icnv .u64 (iadd .i64 s0 s1)) 1))) fun v4 => (J3 (Jcl v4 k1) fun v7 => (if (ilt v7 0) = true then some (.nx ((iadd .i64 (icnv .i64 (ishr .u64 (icnv .u64 (iadd .i64 s0 s1)) 1)) 1), s1))
 else some (.nx (s0, (icnv .i64 (ishr .u64 (icnv .u64 (iadd .i64 s0 s1)) 1)))))))
 else some (.dn s0))
def Ke (k0 : (FS Jm)) (k1 : Int) (k2 : Int) (s : (Int × Int)) : St := match s with
 | (s0, s1) => ⟨fr [(0, encF Jg k0), (1, .int .i64 k1), (2, .fn 94 []), (8, .int .i64 k2), (9, .int .i64 s0), (10, .int .i64 s1)], hl []⟩
def Kr (k0 : (FS Jm)) (k1 : Int) (k2 : Int) (x : Int) : LE × St := (.exit 0, ⟨fr [(0, encF Jg k0), (1, .int .i64 k1), (2, .fn 94 []), (8, .int .i64 k2), (9, .int .i64 x)], hl []⟩)
theorem zp {k0} {k1} {k2} {s} {r} (h : Ky (Ka k0 k1 k2) bigN s = some r) : LK env [] 0 [0, 1, 2, 8, 9, 10] J0c (some (Ke k0 k1 k2 s)) = some (Kr k0 k1 k2 r) := Kt (st := Ke k0 k1 k2) (out := Kr k0 k1 k2) (by
 clear h s r
 rintro ⟨s0, s1⟩ x h
 simp only [Ka] at h
 rcases ifC h with ⟨c1, h⟩ | ⟨c1, h⟩
 ·obtain ⟨v4, h3, h⟩ := oS h
  have f2 := Kc (e := Jg) h3
  obtain ⟨v7, h6, h⟩ := oS h
  have f5 := Jg2 h6
  rcases ifC h with ⟨c8, h⟩ | ⟨c8, h⟩
  ·cases h
   simp only [Ke]
   rw [Jn]
   simp [*, (show ilt 1 0 = false from rfl)]
  ·cases h
   simp only [Ke]
   rw [Jn]
   simp [*, (show ilt 1 0 = false from rfl)]
 ·cases h
  simp only [Ke, Kr]
  rw [Jn]
  simp [*]) bigN s r h
def Ko (p0 : (FS Jm)) (p1 : Int) : Option (Int × Bool) := (J3 (Ky (Ka p0 p1 (flen p0)) bigN (0, (flen p0))) fun v10 => (J3 (gOpt (ilt v10 (flen p0)) (fget p0 v10)) fun v14 => (J3 (gOpt (ilt v10 (flen p0)) (Jcl (v14.getD (⟨0, (FS.nil : (FS Jf))⟩ : Jm)) p1)) fun v17 => some (v10, (band (ilt v10 (flen p0)) (ieq (v17.getD 0) 0))))))
theorem z5 {p0} {p1} {r} (h : Ko p0 p1 = some r) : FC env 93 [encF Jg p0, .int .i64 p1, .fn 94 []] none = some (.tup [.int .i64 r.1, .bool r.2], fun _ => none) := by
 unfold Ko at h
 obtain ⟨v10, h9, h⟩ := oS h
 have f11 := zp h9
 simp only [Ke, Kr, J5] at f11
 try simp only [Jj, Jk, Jq, Jv, Jt, Jx, Jw, Ju] at f11
 obtain ⟨v15, h14, h⟩ := oS h
 have f13 := fun (q0 : (ilt v10 (flen p0)) = true) => Kc (e := Jg) (Kb (⟨0, (FS.nil : (FS Jf))⟩ : Jm) h14 q0)
 obtain ⟨v18, h17, h⟩ := oS h
 have f16 := fun (q0 : (ilt v10 (flen p0)) = true) => Jg2 (Kb 0 h17 q0)
 cases h
 refine J4 (lf := lf93) rfl rfl rfl ?_
 simp only [lf93, lc93]
 rcases tof (ilt v10 (flen p0)) with a19 | a19
 ·try simp only [a19] at f11
  simp [*, zb, tupS, jk, Yx, jn, Yw, jl]
 ·try simp only [a19] at f11
  simp [*, zb, tupS, jk, Yx, jn, Yw, jl]
attribute [simp] c90_0 c90_1 c90_2 c90_3 c90_4
def Jeo (p0 : Ji) (p1 : Int) : Option (FS Jf) := (J3 (Ko p0.Rows p1) fun v3 => (if (bnot v3.2) = true then some (FS.nil : (FS Jf))
 else (J3 (fget p0.Rows v3.1) fun v7 => some v7.Runs)))
theorem Jnc {p0} {p1} {r} (h : Jeo p0 p1 = some r) : FC env 90 [.agg [encF Jg p0.Rows], .int .i64 p1] none = some (encF J9 r, fun _ => none) := by
 unfold Jeo at h
 obtain ⟨v3, h2, h⟩ := oS h
 have f1 := z5 h2
 rcases ifC h with ⟨c4, h⟩ | ⟨c4, h⟩
 ·cases h
  refine J4 (lf := lf90) rfl rfl rfl ?_
  simp only [lf90, lc90]
  rcases tof v3.2 with a5 | a5
  ·simp [a5] at c4
  ·simp [*]
 ·obtain ⟨v8, h7, h⟩ := oS h
  have f6 := Kc (e := Jg) h7
  cases h
  refine J4 (lf := lf90) rfl rfl rfl ?_
  simp only [lf90, lc90]
  rcases tof v3.2 with a9 | a9
  ·simp [*]
  ·simp [a9] at c4
attribute [simp] c92_0 c92_1
def Jai (p0 : Jf) (p1 : Int) : Bool := (band (ile p0.From p1) (ilt p1 p0.To))
def Jw5 (p0 : Jf) (p1 : Int) : Option Bool := some (Jai p0 p1)
theorem Jji (p0 : Jf) (p1 : Int) : FC env 92 [.agg [.int .i64 p0.From, .int .i64 p0.To], .rptr [.int .i64 p1]] none = some (.bool (Jai p0 p1), fun _ => none) := by
 unfold Jai
 refine J4 (lf := lf92) rfl rfl rfl ?_
 simp only [lf92, lc92]
 rcases tof (ile p0.From p1) with a1 | a1
 ·simp [*]
 ·simp [*]
attribute [simp] c96_0 c96_1 c96_2 c96_3 c96_4 c96_5 c96_6 c96_8
theorem c96_L0_u : EC Γ ps 0 J4e σ = EC Γ ps 0 (.seq (.reg false c96_2) (.seq (.cond (.t 9) .skip (.seq (.trim []) (.exit 0))) (.seq (.blk 1 (.seq (.reg false c96_3) (.seq (.reg false c96_4) (.cond (.t 16) (.seq (.reg false c96_5) (.seq (.trim [4]) .ret)) .skip)))) (.reg false c96_6)))) σ := rfl
attribute [simp ↓] c96_L0_u
def Kn (k0 : (FS Jf)) (k1 : Int) (k2 : Int) (s : Int) : Option (LR Int (Int ⊕ Unit)) := match s with
 | s0 => (if (ilt s0 k2) = true then (J3 (fget k0 s0) fun v4 => (if (Jai v4 k1) = true then some (.dn (.inl s0))
 else some (.nx (iadd .i64 s0 1))))
 else some (.dn (.inr ())))
def Kf (k0 : (FS Jf)) (k1 : Int) (k2 : Int) (s : Int) : St := match s with
 | s0 => ⟨fr [(0, encF J9 k0), (1, .fn 92 [.rptr [.int .i64 k1]]), (7, .int .i64 k2), (8, .int .i64 s0)], hl []⟩
def Ki (k0 : (FS Jf)) (k1 : Int) (k2 : Int) (x : (Int ⊕ Unit)) : LE × St := match x with
 | .inl x => (.ret, ⟨fr [(4, .int .i64 x)], hl []⟩)
 | .inr x => (.exit 0, ⟨fr [], hl []⟩)
theorem Jar {k0} {k1} {k2} {s} {r} (h : Ky (Kn k0 k1 k2) bigN s = some r) : LK env [] 0 [0, 1, 7, 8] J4e (some (Kf k0 k1 k2 s)) = some (Ki k0 k1 k2 r) := Kt (st := Kf k0 k1 k2) (out := Ki k0 k1 k2) (by
 clear h s r
 rintro s0 x h
 simp only [Kn] at h
 rcases ifC h with ⟨c1, h⟩ | ⟨c1, h⟩
 ·obtain ⟨v4, h3, h⟩ := oS h
  have f2 := Kc (e := J9) h3
  have f5 := Jji v4 k1
  rcases ifC h with ⟨c6, h⟩ | ⟨c6, h⟩
  ·cases h
   simp only [Kf, Ki]
   rw [Jn]
   simp [*]
  ·cases h
   simp only [Kf]
   rw [Jn]
   simp [*]
 ·cases h
  simp only [Kf, Ki]
  rw [Jn]
  simp [*]) bigN s r h
def Qg (p0 : (FS Jf)) (p1_0 : Int) : Option Int := (J3 (Ky (Kn p0 p1_0 (flen p0)) bigN 0) fun v8 => (match v8 with
 | .inl v8x => some v8x
 | .inr v8x => some (-1)))
theorem Ja2 {p0} {p1_0} {r} (h : Qg p0 p1_0 = some r) : FC env 96 [encF J9 p0, .fn 92 [.rptr [.int .i64 p1_0]]] none = some (.int .i64 r, fun _ => none) := by
 unfold Qg at h
 obtain ⟨v8, h7, h⟩ := oS h
 have f9 := Jar h7
 cases v8 with
 | inl v8x =>
  try simp only at h
  simp only [Kf, Ki, J5] at f9
  try simp only [Jj, Jk, Jq, Jv, Jt, Jx, Jw, Ju] at f9
  cases h
  refine J4 (lf := lf96) rfl rfl rfl ?_
  simp only [lf96, lc96]
  simp [*]
 | inr v8x =>
  try simp only at h
  simp only [Kf, Ki, J5] at f9
  try simp only [Jj, Jk, Jq, Jv, Jt, Jx, Jw, Ju] at f9
  cases h
  refine J4 (lf := lf96) rfl rfl rfl ?_
  simp only [lf96, lc96]
  simp [*]
attribute [simp] c91_0 c91_1
def K5 (p0 : (FS Jf)) (p1_0 : Int) : Option Bool := (J3 (Qg p0 p1_0) fun v3 => some (ige v3 0))
theorem Jaq {p0} {p1_0} {r} (h : K5 p0 p1_0 = some r) : FC env 91 [encF J9 p0, .fn 92 [.rptr [.int .i64 p1_0]]] none = some (.bool r, fun _ => none) := by
 unfold K5 at h
 obtain ⟨v3, h2, h⟩ := oS h
 have f1 := Ja2 h2
 cases h
 refine J4 (lf := lf91) rfl rfl rfl ?_
 simp only [lf91, lc91]
 simp [*]
attribute [simp] c89_0 c89_1 c89_2 c89_3
def Jcz (p0 : (FS Jf)) (p1 : Int) : Option Bool := (J3 (Jc6 p0) fun v3 => (if (bnot v3) = true then some false
 else (J3 (K5 p0 p1) fun v7 => some v7)))
theorem Jkm {p0} {p1} {r} (h : Jcz p0 p1 = some r) : FC env 89 [encF J9 p0, .int .i64 p1] none = some (.bool r, fun _ => none) := by
 unfold Jcz at h
 obtain ⟨v3, h2, h⟩ := oS h
 have f1 := Ji1 h2
 rcases ifC h with ⟨c4, h⟩ | ⟨c4, h⟩
 ·cases h
  refine J4 (lf := lf89) rfl rfl rfl ?_
  simp only [lf89, lc89]
  rcases tof v3 with a5 | a5
  ·simp [a5] at c4
  ·simp [*]
 ·obtain ⟨v8, h7, h⟩ := oS h
  have f6 := Jaq h7
  cases h
  refine J4 (lf := lf89) rfl rfl rfl ?_
  simp only [lf89, lc89]
  rcases tof v3 with a9 | a9
  ·simp [*]
  ·simp [a9] at c4
attribute [simp] c85_0 c85_1
def jh (p0 : Ji) (p1 : Ja) : Option Bool := (J3 (Jbx p0) fun v3 => (J3 (gOpt v3 (Jeo p0 p1.Y)) fun v6 => (J3 (gOpt v3 (Jcz (v6.getD (FS.nil : (FS Jf))) p1.X)) fun v9 => some (band v3 (v9.getD false)))))
theorem Jdc {p0} {p1} {r} (h : jh p0 p1 = some r) : FC env 85 [.agg [encF Jg p0.Rows], .agg [.int .i64 p1.X, .int .i64 p1.Y]] none = some (.bool r, fun _ => none) := by
 unfold jh at h
 obtain ⟨v3, h2, h⟩ := oS h
 have f1 := Jhd h2
 obtain ⟨v6, h5, h⟩ := oS h
 have f4 := fun (q0 : v3 = true) => Jnc (Kb (FS.nil : (FS Jf)) h5 q0)
 obtain ⟨v9, h8, h⟩ := oS h
 have f7 := fun (q0 : v3 = true) => Jkm (Kb false h8 q0)
 cases h
 refine J4 (lf := lf85) rfl rfl rfl ?_
 simp only [lf85, lc85]
 rcases tof v3 with a10 | a10
 ·simp [*]
 ·simp [*]
attribute [simp] c86_0 c86_1 c86_2 c86_3 c86_4 c86_5 c86_6 c86_7 c86_8 c86_9 J3b Jx5 J3x Jzs Jz4 c86_17
theorem c86_L0_u : EC Γ ps 0 Ju0 σ = EC Γ ps 0 (.seq (.reg false c86_8) (.seq (.cond (.t 57) .skip (.seq (.trim [3, 5, 7, 8]) (.exit 2))) (.seq (.blk 3 (.seq (.reg false c86_9) (.seq (.reg false J3b) (.seq (.reg false Jx5) (.cond (.t 71) (.seq (.reg false J3x) (.reg false Jzs)) .skip))))) (.reg false Jz4)))) σ := rfl
theorem c86_L1_u : EC Γ ps 0 J19 σ = EC Γ ps 0 (.seq (.seq (.reg false c86_3) (.cond (.t 22) .skip (.seq (.trim [7]) (.exit 0)))) (.blk 1 (.seq (.reg false c86_4) (.seq (.reg false c86_5) (.seq (.seq (.reg false c86_6) (.cond (.t 30) (.seq (.trim [7]) (.exit 0)) .skip)) (.seq (.reg false c86_7) (.blk 2 (.loop [3, 5, 7, 8, 9, 55, 56] Ju0)))))))) σ := rfl
attribute [simp ↓] c86_L0_u c86_L1_u
def j5 (k0 : Ji) (k1 : Ja) (k2 : Ja) (k3 : (A4 Ja)) (s : ((List (Ja × Ja)) × (FS Ja) × Int)) : Option (LR ((List (Ja × Ja)) × (FS Ja) × Int) ((List (Ja × Ja)) × (FS Ja))) := match s with
 | (s0, s1, s2) => (if (ilt s2 4) = true then (if inB s2 4 = true then (J3 (gOpt (bnot (mhas K0 s0 (A4.get k3 s2))) (jh k0 (A4.get k3 s2))) fun v23 => (if (band (bnot (mhas K0 s0 (A4.get k3 s2))) (v23.getD false)) = true then (if fits 16 ((flen s1) + 1) = true then some (.nx ((mset K0 s0 (A4.get k3 s2) k2), (Y0 s1 (A4.get k3 s2)), (iadd .i64 s2 1))) else none)
 else some (.nx (s0, s1, (iadd .i64 s2 1))))) else none)
 else some (.dn (s0, s1)))
def Jaj (k0 : Ji) (k1 : Ja) (k2 : Ja) (k3 : (A4 Ja)) (s : ((List (Ja × Ja)) × (FS Ja) × Int)) : St := match s with
 | (s0, s1, s2) => ⟨fr [(3, .ptr 3 0 0), (5, .ptr 5 0 0), (7, .map 7 0), (8, .arr 8 0 0 s1.l.length), (9, .ptr 9 0 0), (55, .agg [.int .i64 k3.a0.X, .int .i64 k3.a0.Y, .int .i64 k3.a1.X, .int .i64 k3.a1.Y, .int .i64 k3.a2.X, .int .i64 k3.a2.Y, .int .i64 k3.a3.X, .int .i64 k3.a3.Y]), (56, .int .i64 s2)], hl [(3, .box 0 [encF Jg k0.Rows]), (5, .box 0 [.int .i64 k1.X, .int .i64 k1.Y]), (7, .map 0 (encM Za Zv s0) false), (8, .arr 0 2 27 (Jp Je s1.l) false), (9, .box 0 [.int .i64 k2.X, .int .i64 k2.Y])]⟩
def Jb1 (k0 : Ji) (k1 : Ja) (k2 : Ja) (k3 : (A4 Ja)) (x : ((List (Ja × Ja)) × (FS Ja))) : LE × St := (.exit 2, ⟨fr [(3, .ptr 3 0 0), (5, .ptr 5 0 0), (7, .map 7 0), (8, .arr 8 0 0 x.2.l.length)], hl [(3, .box 0 [encF Jg k0.Rows]), (5, .box 0 [.int .i64 k1.X, .int .i64 k1.Y]), (7, .map 0 (encM Za Zv x.1) false), (8, .arr 0 2 27 (Jp Je x.2.l) false)]⟩)
theorem Jjv {k0} {k1} {k2} {k3} {s} {r} (h : Ky (j5 k0 k1 k2 k3) bigN s = some r) : LK env [] 0 [3, 5, 7, 8, 9, 55, 56] Ju0 (some (Jaj k0 k1 k2 k3 s)) = some (Jb1 k0 k1 k2 k3 r) := Kt (st := Jaj k0 k1 k2 k3) (out := Jb1 k0 k1 k2 k3) (by
 clear h s r
 rintro ⟨s0, s1, s2⟩ x h
 simp only [j5] at h
 rcases ifC h with ⟨c19, h⟩ | ⟨c19, h⟩
 ·obtain ⟨h21, h⟩ := ifS h
  have f20 := @idx_in 4 s2 h21 2 true [.int .i64 k3.a0.X, .int .i64 k3.a0.Y, .int .i64 k3.a1.X, .int .i64 k3.a1.Y, .int .i64 k3.a2.X, .int .i64 k3.a2.Y, .int .i64 k3.a3.X, .int .i64 k3.a3.Y]
  have f20b := @pack_A4 _ _ Je _ k3 _ h21 [] [] (by decide) true
  simp only [A4.toL, Jp, List.flatMap_cons, List.flatMap_nil, List.append_assoc, List.nil_append, List.cons_append, List.append_nil, List.length_cons, List.length_nil, Nat.zero_add, Je] at f20b
  have f22 := Jow (ek := Za) (ev := Zv) s0 (A4.get k3 s2) (⟨0, 0⟩ : Ja)
  simp only [Za, Zv] at f22
  obtain ⟨v25, h24, h⟩ := oS h
  have f23 := fun (q0 : (bnot (mhas K0 s0 (A4.get k3 s2))) = true) => Jdc (Kb false h24 q0)
  rcases ifC h with ⟨c26, h⟩ | ⟨c26, h⟩
  ·have f27 := fun (H : Heap) hg => J2f (ek := Za) (ev := Zv) (h := H) (g := 7) (ver := 0) (es := s0) hg (A4.get k3 s2) k2
   simp only [Za, Zv] at f27
   obtain ⟨h29, h⟩ := ifS h
   have f28 := fun g0 H y => @Yn _ _ Je _ s1 (A4.get k3 s2) 16 h29 (by decide) g0 H 8 0 27 y
   simp only [Je] at f28
   cases h
   simp only [Jaj]
   rw [Jn]
   rcases tof (mhas K0 s0 (A4.get k3 s2)) with a30 | a30 <;> rcases tof (v25.getD false) with a31 | a31 <;> (try (simp [c19, a30, a31] at c26; done)) <;> simp [*, Jty]
  ·cases h
   simp only [Jaj]
   rw [Jn]
   rcases tof (mhas K0 s0 (A4.get k3 s2)) with a32 | a32 <;> rcases tof (v25.getD false) with a33 | a33 <;> (try (simp [c19, a32, a33] at c26; done)) <;> simp [*, Jty]
 ·cases h
  simp only [Jaj, Jb1]
  rw [Jn]
  simp [*]) bigN s r h
def Jax (k0 : Ji) (k1 : Ja) (s : ((List (Ja × Ja)) × (FS Ja))) : Option (LR ((List (Ja × Ja)) × (FS Ja)) (List (Ja × Ja))) := match s with
 | (s0, s1) => (if (igt (flen s1) 0) = true then (J3 (fget s1 0) fun v8 => (J3 (fsl s1 1 (flen s1)) fun v15 => (if (band (ieq v8.X k1.X) (band (ieq v8.Y k1.Y) true)) = true then some (.dn s0)
 else (J3 (Ky (j5 k0 k1 v8 (⟨(⟨(iadd .i64 v8.X 1), v8.Y⟩ : Ja), (⟨(isub .i64 v8.X 1), v8.Y⟩ : Ja), (⟨v8.X, (iadd .i64 v8.Y 1)⟩ : Ja), (⟨v8.X, (isub .i64 v8.Y 1)⟩ : Ja)⟩ : (A4 Ja))) bigN (s0, v15, 0)) fun v29 => some (.nx (v29.1, v29.2))))))
 else some (.dn s0))
def Jaf (k0 : Ji) (k1 : Ja) (s : ((List (Ja × Ja)) × (FS Ja))) : St := match s with
 | (s0, s1) => ⟨fr [(3, .ptr 3 0 0), (5, .ptr 5 0 0), (7, .map 7 0), (8, .arr 8 0 0 s1.l.length)], hl [(3, .box 0 [encF Jg k0.Rows]), (5, .box 0 [.int .i64 k1.X, .int .i64 k1.Y]), (7, .map 0 (encM Za Zv s0) false), (8, .arr 0 2 27 (Jp Je s1.l) false)]⟩
def Jaz (k0 : Ji) (k1 : Ja) (x : (List (Ja × Ja))) : LE × St := (.exit 0, ⟨fr [(7, .map 7 0)], hl [(7, .map 0 (encM Za Zv x) false)]⟩)
theorem Jj4 {k0} {k1} {s} {r} (h : Ky (Jax k0 k1) bigN s = some r) : LK env [] 0 [3, 5, 7, 8] J19 (some (Jaf k0 k1 s)) = some (Jaz k0 k1 r) := Kt (st := Jaf k0 k1) (out := Jaz k0 k1) (by
 clear h s r
 rintro ⟨s0, s1⟩ x h
 simp only [Jax] at h
 rcases ifC h with ⟨c4, h⟩ | ⟨c4, h⟩
 ·obtain ⟨v8, h7, h⟩ := oS h
  have f5 := Qa (w := 2) h7
  have f6 := h7
  have f9 := (X1 (e := Je) f6 true 2 (by decide) (by decide))
  simp only [Je] at f9
  obtain ⟨v15, h14, h⟩ := oS h
  have f12 := Jdk (e := Je) h14
  try simp only [Int.reduceToNat, Nat.reduceMul, Nat.one_mul, Nat.mul_one] at f12
  have f13 := Je6 h14 2
  try simp only [Int.reduceToNat, Nat.reduceMul, Nat.one_mul, Nat.mul_one] at f13
  have f10 := Jfy (w := 2) h14
  try simp only [Int.reduceToNat, Nat.reduceMul, Nat.one_mul, Nat.mul_one] at f10
  have f11 := h14
  rcases ifC h with ⟨c16, h⟩ | ⟨c16, h⟩
  ·cases h
   simp only [Jaf, Jaz]
   rw [Jn]
   rcases tof (ieq v8.X k1.X) with a17 | a17 <;> rcases tof (ieq v8.Y k1.Y) with a18 | a18 <;> (try (simp [c4, a17, a18] at c16; done)) <;> simp [*]
  ·obtain ⟨v35, h34, h⟩ := oS h
   have f36 := Jjv h34
   simp only [Jaj, Jb1, J5] at f36
   try simp only [Jj, Jk, Jq, Jv, Jt, Jx, Jw, Ju] at f36
   cases h
   simp only [Jaf]
   rw [Jn]
   rcases tof (ieq v8.X k1.X) with a38 | a38 <;> rcases tof (ieq v8.Y k1.Y) with a39 | a39 <;> (try (simp [c4, a38, a39] at c16; done)) <;> (try simp only [c4, a38, a39] at f36) <;> simp [*]
 ·cases h
  simp only [Jaf, Jaz]
  rw [Jn]
  simp [*]) bigN s r h
def Jd5 (p0 : Ji) (p1 : Ja) (p2 : Ja) : Option (List (Ja × Ja)) := (J3 (Ky (Jax p0 p2) bigN ((mset K0 ([] : (List (Ja × Ja))) p1 p1), (flit ([p1] : List Ja)))) fun v32 => some v32)
theorem Jl9 {p0} {p1} {p2} {r} (h : Jd5 p0 p1 p2 = some r) : FC env 86 [.agg [encF Jg p0.Rows], .agg [.int .i64 p1.X, .int .i64 p1.Y], .agg [.int .i64 p2.X, .int .i64 p2.Y]] none = some (Jj3 Za Zv r, fun _ => none) := by
 unfold Jd5 at h
 have f1 := mkM_enc (ek := Za) (ev := Zv)
 have f2 := fun (H : Heap) hg => J2f (ek := Za) (ev := Zv) (h := H) (g := 14) (ver := 0) (es := ([] : (List (Ja × Ja)))) hg p1 p1
 simp only [Za, Zv] at f2
 have f3 : ∀ (H : Heap) (g0 : Nat), bslV H g0 1 2 27 (some [.int .i64 p1.X, .int .i64 p1.Y]) = some (.arr g0 (Kq H g0) 0 (flit ([p1] : List Ja)).l.length, upd H g0 (some (.arr (Kq H g0) 2 27 (Jp Je (flit ([p1] : List Ja)).l) false))) := fun H g0 => rfl
 obtain ⟨v41, h40, h⟩ := oS h
 have f42 := Jj4 h40
 simp only [Jaf, Jaz, J5] at f42
 try simp only [Jj, Jk, Jq, Jv, Jt, Jx, Jw, Ju] at f42
 have f44 := fun (H : Heap) (g w : Nat) hg => J40 (ek := Za) (ev := Zv) (es := v41) (h := H) (g := g) (ver := w) hg
 cases h
 refine J4 (lf := lf86) rfl rfl rfl ?_
 simp only [lf86, lc86]
 simp [*, -Jt3]
attribute [simp] c87_0 c87_1 c87_2 c87_3
theorem c87_L0_u : EC Γ ps 0 J4p σ = EC Γ ps 0 (.seq (.seq (.reg false c87_1) (.cond (.t 9) .skip (.seq (.trim []) (.exit 0)))) (.seq (.blk 1 (.reg true c87_2)) (.reg false c87_3))) σ := rfl
attribute [simp ↓] c87_L0_u
def Qf  (s : ((FS Ja) × Int × Int)) : Option (LR ((FS Ja) × Int × Int) (FS Ja)) := match s with
 | (s0, s1, s2) => (if (ilt s1 s2) = true then (J3 (fget s0 s2) fun v5 => (J3 (fget s0 s1) fun v10 => (J3 (fget (fset s0 s1 v5) s2) fun v19 => some (.nx ((fset (fset s0 s1 v5) s2 v10), (iadd .i64 s1 1), (isub .i64 s2 1))))))
 else some (.dn s0))
def Qj  (s : ((FS Ja) × Int × Int)) : St := match s with
 | (s0, s1, s2) => ⟨fr [(0, .arr 0 0 0 s0.l.length), (2, .int .i64 s1), (3, .int .i64 s2)], hl [(0, .arr 0 2 27 (Jp Je s0.l) false)]⟩
def Q9  (x : (FS Ja)) : LE × St := (.exit 0, ⟨fr [], hl [(0, .arr 0 2 27 (Jp Je x.l) false)]⟩)
theorem Jcv  {s} {r} (h : Ky (Qf ) bigN s = some r) : LK env [0] 0 [0, 2, 3] J4p (some (Qj  s)) = some (Q9  r) := Kt (st := Qj ) (out := Q9 ) (by
 clear h s r
 rintro ⟨s0, s1, s2⟩ x h
 simp only [Qf] at h
 rcases ifC h with ⟨c1, h⟩ | ⟨c1, h⟩
 ·obtain ⟨v5, h4, h⟩ := oS h
  have f2 := Qa (w := 2) h4
  have f3 := h4
  have f6 := (X1 (e := Je) f3 true 2 (by decide) (by decide))
  simp only [Je] at f6
  obtain ⟨v10, h9, h⟩ := oS h
  have f7 := Qa (w := 2) h9
  have f8 := h9
  have f11 := (X1 (e := Je) f8 true 2 (by decide) (by decide))
  simp only [Je] at f11
  have f14 := @Jda _ _ Je _ s0 s1 v10 v5 f8 [.int .i64 v5.X, .int .i64 v5.Y] (by simp) (by simp [Je])
  have f15 := Jhp (w := 2) f8 2 (by decide)
  try simp at f15
  obtain ⟨v19, h18, h⟩ := oS h
  have f16 := Qa (w := 2) h18
  try simp only [J5] at f16
  have f17 := h18
  have f20 := @Jda _ _ Je _ (fset s0 s1 v5) s2 v19 v10 f17 [.int .i64 v10.X, .int .i64 v10.Y] (by simp) (by simp [Je])
  have f21 := Jhp (w := 2) f17 2 (by decide)
  try simp at f21
  cases h
  simp only [Qj]
  rw [Jn]
  simp [*]
 ·cases h
  simp only [Qj, Q9]
  rw [Jn]
  simp [*]) bigN s r h
def Xe (p0 : (FS Ja)) : Option (FS Ja) := (J3 (Ky (Qf) bigN (p0, 0, (isub .i64 (flen p0) 1))) fun v23 => some v23)
theorem Jdd {p0} {r} (h : Xe p0 = some r) : FC env 87 [.arr 0 0 0 p0.l.length] (some (hl [(0, .arr 0 2 27 (Jp Je p0.l) false)], 0)) = some (.tup [], hl [(0, .arr 0 2 27 (Jp Je r.l) false)]) := by
 unfold Xe at h
 obtain ⟨v23, h22, h⟩ := oS h
 have f24 := Jcv h22
 simp only [Qj, Q9, J5] at f24
 try simp only [Jj, Jk, Jq, Jv, Jt, Jx, Jw, Ju] at f24
 cases h
 refine j7 (lf := lf87) rfl rfl rfl ?_
 simp only [lf87, lc87]
 simp [*]
attribute [simp] c79_0 c79_1 c79_2 c79_3 c79_4 c79_5 c79_6 c79_7 c79_8 c79_9 Jzq J0r Jyb Jzg c79_15 c79_16
theorem c79_L0_u : EC Γ ps 0 J0f σ = EC Γ ps 0 (.seq (.seq (.reg false c79_9) (.cond (.t 40) .skip (.seq (.trim [11]) (.exit 0)))) (.seq (.blk 1 (.seq (.reg false Jzq) (.reg false J0r))) (.seq (.reg false Jyb) (.reg false Jzg)))) σ := rfl
attribute [simp ↓] c79_L0_u
def Jbs (k0 : Ja) (k1 : (List (Ja × Ja))) (s : ((FS Ja) × Ja)) : Option (LR ((FS Ja) × Ja) (FS Ja)) := match s with
 | (s0, s1) => (if (bnot (band (ieq s1.X k0.X) (band (ieq s1.Y k0.Y) true))) = true then (if fits 16 ((flen s0) + 1) = true then some (.nx ((Y0 s0 (mget K0 k1 s1 (⟨0, 0⟩ : Ja))), (mget K0 k1 s1 (⟨0, 0⟩ : Ja)))) else none)
 else some (.dn s0))
def Jb8 (k0 : Ja) (k1 : (List (Ja × Ja))) (s : ((FS Ja) × Ja)) : St := match s with
 | (s0, s1) => ⟨fr [(4, .ptr 4 0 0), (8, Jj3 Za Zv k1), (11, .arr 11 0 0 s0.l.length), (12, .ptr 12 0 0)], hl [(4, .box 0 [.int .i64 k0.X, .int .i64 k0.Y]), (11, .arr 0 2 27 (Jp Je s0.l) false), (12, .box 0 [.int .i64 s1.X, .int .i64 s1.Y])]⟩
def Jcn (k0 : Ja) (k1 : (List (Ja × Ja))) (x : (FS Ja)) : LE × St := (.exit 0, ⟨fr [(11, .arr 11 0 0 x.l.length)], hl [(11, .arr 0 2 27 (Jp Je x.l) false)]⟩)
theorem Jln {k0} {k1} {s} {r} (h : Ky (Jbs k0 k1) bigN s = some r) : LK env [] 0 [4, 8, 11, 12] J0f (some (Jb8 k0 k1 s)) = some (Jcn k0 k1 r) := Kt (st := Jb8 k0 k1) (out := Jcn k0 k1) (by
 clear h s r
 rintro ⟨s0, s1⟩ x h
 simp only [Jbs] at h
 rcases ifC h with ⟨c19, h⟩ | ⟨c19, h⟩
 ·have f20 := look_enc (ek := Za) (ev := Zv) k1 s1 (⟨0, 0⟩ : Ja)
  simp only [Za, Zv] at f20
  obtain ⟨h22, h⟩ := ifS h
  have f21 := fun g0 H y => @Yn _ _ Je _ s0 (mget K0 k1 s1 (⟨0, 0⟩ : Ja)) 16 h22 (by decide) g0 H 11 0 27 y
  simp only [Je] at f21
  cases h
  simp only [Jb8]
  rw [Jn]
  rcases tof (ieq s1.X k0.X) with a23 | a23 <;> rcases tof (ieq s1.Y k0.Y) with a24 | a24 <;> (try (simp [a23, a24] at c19; done)) <;> simp [*, es_MP]
 ·cases h
  simp only [Jb8, Jcn]
  rw [Jn]
  rcases tof (ieq s1.X k0.X) with a25 | a25 <;> rcases tof (ieq s1.Y k0.Y) with a26 | a26 <;> (try (simp [a25, a26] at c19; done)) <;> simp [*]) bigN s r h
def Jdm (p0 : Ji) (p1 : Ja) (p2 : Ja) : Option ((FS Ja) × Bool) := (J3 (jh p0 p1) fun v3 => (J3 (gOpt (bnot (bnot v3)) (jh p0 p2)) fun v6 => (if (bor (bnot v3) (bnot (v6.getD false))) = true then some ((FS.nil : (FS Ja)), false)
 else (J3 (Jd5 p0 p1 p2) fun v10 => (if (bnot (mhas K0 v10 p2)) = true then some ((FS.nil : (FS Ja)), false)
 else (J3 (Ky (Jbs p1 v10) bigN ((flit ([p2] : List Ja)), p2)) fun v19 => (J3 (Xe v19) fun v22 => (if ieq (flen v22) (flen v19) = true then some ((flst v22), true) else none))))))))
theorem Jjk {p0} {p1} {p2} {r} (h : Jdm p0 p1 p2 = some r) : FC env 79 [.agg [encF Jg p0.Rows], .agg [.int .i64 p1.X, .int .i64 p1.Y], .agg [.int .i64 p2.X, .int .i64 p2.Y]] none = some (.tup [encF Je r.1, .bool r.2], fun _ => none) := by
 unfold Jdm at h
 obtain ⟨v3, h2, h⟩ := oS h
 have f1 := Jdc h2
 obtain ⟨v6, h5, h⟩ := oS h
 have f4 := fun (q0 : (bnot v3) = false) => Jdc (Kb false h5 (Qo q0))
 rcases ifC h with ⟨c7, h⟩ | ⟨c7, h⟩
 ·cases h
  refine J4 (lf := lf79) rfl rfl rfl ?_
  simp only [lf79, lc79]
  rcases tof v3 with a8 | a8 <;> rcases tof (v6.getD false) with a9 | a9 <;> (try (simp [a8, a9] at c7; done)) <;> simp [*, zb, tupS, jk, Yx, jn, Yw, jl]
 ·obtain ⟨v12, h11, h⟩ := oS h
  have f10 := Jl9 h11
  have f13 := Jow (ek := Za) (ev := Zv) v12 p2 (⟨0, 0⟩ : Ja)
  simp only [Za, Zv] at f13
  rcases ifC h with ⟨c14, h⟩ | ⟨c14, h⟩
  ·cases h
   refine J4 (lf := lf79) rfl rfl rfl ?_
   simp only [lf79, lc79]
   rcases tof v3 with a15 | a15 <;> rcases tof (v6.getD false) with a16 | a16 <;> rcases tof (mhas K0 v12 p2) with a17 | a17 <;> (try (simp [a15, a16, a17] at c14 c7; done)) <;> simp [*, es_MP, zb, tupS, jk, Yx, jn, Yw, jl]
  ·have f18 : ∀ (H : Heap) (g0 : Nat), bslV H g0 1 2 27 (some [.int .i64 p2.X, .int .i64 p2.Y]) = some (.arr g0 (Kq H g0) 0 (flit ([p2] : List Ja)).l.length, upd H g0 (some (.arr (Kq H g0) 2 27 (Jp Je (flit ([p2] : List Ja)).l) false))) := fun H g0 => rfl
   obtain ⟨v28, h27, h⟩ := oS h
   have f29 := Jln h27
   simp only [Jb8, Jcn, J5] at f29
   try simp only [Jj, Jk, Jq, Jv, Jt, Jx, Jw, Ju] at f29
   obtain ⟨v32, h31, h⟩ := oS h
   have f33 := Jdd h31
   try simp only [J5, K4, Jj, Jk, Jq, Jv, Jt, Jx, Jw, Ju] at f33
   obtain ⟨h34, h⟩ := ifS h
   have h35 : v28.l.length = v32.l.length := len_of h34
   try simp only [h35] at f1 f4 f10 f13 f18 f29 f33
   try simp only [Jj, Jk, Jq, Jv, Jt, Jx, Jw, Ju] at f33
   have f36 : ∀ H : Heap, H 11 = some (.arr 0 2 27 (Jp Je v28.l) false) → Jak (FC env) 87 H [.arr 11 0 0 v28.l.length] = some (.tup [], upd H 11 (some (.arr 0 2 27 (Jp Je v32.l) false))) := by
     intro H q0
     simp [*, q0]
   try simp only [h35] at f36
   cases h
   refine J4 (lf := lf79) rfl rfl rfl ?_
   simp only [lf79, lc79]
   rcases tof v3 with a37 | a37 <;> rcases tof (v6.getD false) with a38 | a38 <;> rcases tof (mhas K0 v12 p2) with a39 | a39 <;> (try (simp [a37, a38, a39] at c14 c7; done)) <;> (try simp only [a37, a38, a39] at f29 f33) <;> simp [*, -Qr, es_MP, -Jt3, Jhk (e := Je) (el := 27) (fz := false), zb, tupS, jk, Yx, jn, Yw, jl]
attribute [simp] c88_0 c88_1
def Jb9 (p0 : Ja) : Bool := (band (band (band (ige p0.X (-4096)) (ilt p0.X 4096)) (ige p0.Y (-4096))) (ilt p0.Y 4096))
def t_comb_ok (p0 : Ja) : Option Bool := some (Jb9 p0)
theorem Jlw (p0 : Ja) : FC env 88 [.agg [.int .i64 p0.X, .int .i64 p0.Y]] none = some (.bool (Jb9 p0), fun _ => none) := by
 unfold Jb9
 refine J4 (lf := lf88) rfl rfl rfl ?_
 simp only [lf88, lc88]
 rcases tof (ige p0.X (-4096)) with a1 | a1 <;> rcases tof (ilt p0.X 4096) with a2 | a2 <;> rcases tof (ige p0.Y (-4096)) with a3 | a3 <;> simp [*]
attribute [simp] c80_0 c80_1 c80_2 c80_3 c80_4 c80_5 c80_6 c80_7 c80_8 c80_9 Jxr J1b J41 c80_14
theorem c80_L0_u : EC Γ ps 0 J3z σ = EC Γ ps 0 (.seq (.seq (.reg false c80_4) (.cond (.t 18) .skip (.seq (.trim [5]) (.exit 0)))) (.blk 1 (.seq (.blk 2 (.seq (.reg false c80_5) (.cond (.t 23) (.reg false c80_6) (.seq (.reg false c80_7) (.cond (.t 33) (.reg false c80_8) (.seq (.reg false c80_9) (.cond (.t 43) (.reg false Jxr) (.reg false J1b)))))))) (.reg false J41)))) σ := rfl
attribute [simp ↓] c80_L0_u
def Jat (k0 : Ja) (s : (Ja × (FS Ja))) : Option (LR (Ja × (FS Ja)) (FS Ja)) := match s with
 | (s0, s1) => (if (bnot (band (ieq s0.X k0.X) (band (ieq s0.Y k0.Y) true))) = true then (if (ilt s0.X k0.X) = true then (if fits 16 ((flen s1) + 1) = true then some (.nx ((⟨(iadd .i64 s0.X 1), s0.Y⟩ : Ja), (Y0 s1 (⟨(iadd .i64 s0.X 1), s0.Y⟩ : Ja)))) else none)
 else (if (igt s0.X k0.X) = true then (if fits 16 ((flen s1) + 1) = true then some (.nx ((⟨(isub .i64 s0.X 1), s0.Y⟩ : Ja), (Y0 s1 (⟨(isub .i64 s0.X 1), s0.Y⟩ : Ja)))) else none)
 else (if (ilt s0.Y k0.Y) = true then (if fits 16 ((flen s1) + 1) = true then some (.nx ((⟨s0.X, (iadd .i64 s0.Y 1)⟩ : Ja), (Y0 s1 (⟨s0.X, (iadd .i64 s0.Y 1)⟩ : Ja)))) else none)
 else (if fits 16 ((flen s1) + 1) = true then some (.nx ((⟨s0.X, (isub .i64 s0.Y 1)⟩ : Ja), (Y0 s1 (⟨s0.X, (isub .i64 s0.Y 1)⟩ : Ja)))) else none))))
 else some (.dn s1))
def Yr (k0 : Ja) (s : (Ja × (FS Ja))) : St := match s with
 | (s0, s1) => ⟨fr [(2, .ptr 2 0 0), (3, .ptr 3 0 0), (5, .arr 5 0 0 s1.l.length)], hl [(2, .box 0 [.int .i64 s0.X, .int .i64 s0.Y]), (3, .box 0 [.int .i64 k0.X, .int .i64 k0.Y]), (5, .arr 0 2 27 (Jp Je s1.l) false)]⟩
def Jbf (k0 : Ja) (x : (FS Ja)) : LE × St := (.exit 0, ⟨fr [(5, .arr 5 0 0 x.l.length)], hl [(5, .arr 0 2 27 (Jp Je x.l) false)]⟩)
theorem Jiz {k0} {s} {r} (h : Ky (Jat k0) bigN s = some r) : LK env [] 0 [2, 3, 5] J3z (some (Yr k0 s)) = some (Jbf k0 r) := Kt (st := Yr k0) (out := Jbf k0) (by
 clear h s r
 rintro ⟨s0, s1⟩ x h
 simp only [Jat] at h
 rcases ifC h with ⟨c7, h⟩ | ⟨c7, h⟩
 ·rcases ifC h with ⟨c8, h⟩ | ⟨c8, h⟩
  ·obtain ⟨h10, h⟩ := ifS h
   have f9 := fun g0 H y => @Yn _ _ Je _ s1 (⟨(iadd .i64 s0.X 1), s0.Y⟩ : Ja) 16 h10 (by decide) g0 H 5 0 27 y
   simp only [Je] at f9
   cases h
   simp only [Yr]
   rw [Jn]
   rcases tof (ieq s0.X k0.X) with a11 | a11 <;> rcases tof (ieq s0.Y k0.Y) with a12 | a12 <;> (try (simp [c8, a11, a12] at c7; done)) <;> simp [*]
  ·rcases ifC h with ⟨c13, h⟩ | ⟨c13, h⟩
   ·obtain ⟨h15, h⟩ := ifS h
    have f14 := fun g0 H y => @Yn _ _ Je _ s1 (⟨(isub .i64 s0.X 1), s0.Y⟩ : Ja) 16 h15 (by decide) g0 H 5 0 27 y
    simp only [Je] at f14
    cases h
    simp only [Yr]
    rw [Jn]
    rcases tof (ieq s0.X k0.X) with a16 | a16 <;> rcases tof (ieq s0.Y k0.Y) with a17 | a17 <;> (try (simp [c8, c13, a16, a17] at c7; done)) <;> simp [*]
   ·rcases ifC h with ⟨c18, h⟩ | ⟨c18, h⟩
    ·obtain ⟨h20, h⟩ := ifS h
     have f19 := fun g0 H y => @Yn _ _ Je _ s1 (⟨s0.X, (iadd .i64 s0.Y 1)⟩ : Ja) 16 h20 (by decide) g0 H 5 0 27 y
     simp only [Je] at f19
     cases h
     simp only [Yr]
     rw [Jn]
     rcases tof (ieq s0.X k0.X) with a21 | a21 <;> rcases tof (ieq s0.Y k0.Y) with a22 | a22 <;> (try (simp [c8, c13, c18, a21, a22] at c7; done)) <;> simp [*]
    ·obtain ⟨h24, h⟩ := ifS h
     have f23 := fun g0 H y => @Yn _ _ Je _ s1 (⟨s0.X, (isub .i64 s0.Y 1)⟩ : Ja) 16 h24 (by decide) g0 H 5 0 27 y
     simp only [Je] at f23
     cases h
     simp only [Yr]
     rw [Jn]
     rcases tof (ieq s0.X k0.X) with a25 | a25 <;> rcases tof (ieq s0.Y k0.Y) with a26 | a26 <;> (try (simp [c8, c13, c18, a25, a26] at c7; done)) <;> simp [*]
 ·cases h
  simp only [Yr, Jbf]
  rw [Jn]
  rcases tof (ieq s0.X k0.X) with a27 | a27 <;> rcases tof (ieq s0.Y k0.Y) with a28 | a28 <;> (try (simp [a27, a28] at c7; done)) <;> simp [*]) bigN s r h
def Jc0 (p0 : Ja) (p1 : Ja) : Option (FS Ja) := (if (bor (bnot (Jb9 p0)) (bnot (Jb9 p1))) = true then some (FS.nil : (FS Ja))
 else (J3 (Ky (Jat p1) bigN (p0, (flit ([p0] : List Ja)))) fun v18 => some (flst v18)))
theorem Jgh {p0} {p1} {r} (h : Jc0 p0 p1 = some r) : FC env 80 [.agg [.int .i64 p0.X, .int .i64 p0.Y], .agg [.int .i64 p1.X, .int .i64 p1.Y]] none = some (encF Je r, fun _ => none) := by
 unfold Jc0 at h
 have f1 := Jlw p0
 have f2 := Jlw p1
 rcases ifC h with ⟨c3, h⟩ | ⟨c3, h⟩
 ·cases h
  refine J4 (lf := lf80) rfl rfl rfl ?_
  simp only [lf80, lc80]
  rcases tof (Jb9 p0) with a4 | a4 <;> rcases tof (Jb9 p1) with a5 | a5 <;> (try (simp [a4, a5] at c3; done)) <;> simp [*]
 ·have f6 : ∀ (H : Heap) (g0 : Nat), bslV H g0 1 2 27 (some [.int .i64 p0.X, .int .i64 p0.Y]) = some (.arr g0 (Kq H g0) 0 (flit ([p0] : List Ja)).l.length, upd H g0 (some (.arr (Kq H g0) 2 27 (Jp Je (flit ([p0] : List Ja)).l) false))) := fun H g0 => rfl
  obtain ⟨v30, h29, h⟩ := oS h
  have f31 := Jiz h29
  simp only [Yr, Jbf, J5] at f31
  try simp only [Jj, Jk, Jq, Jv, Jt, Jx, Jw, Ju] at f31
  cases h
  refine J4 (lf := lf80) rfl rfl rfl ?_
  simp only [lf80, lc80]
  rcases tof (Jb9 p0) with a33 | a33 <;> rcases tof (Jb9 p1) with a34 | a34 <;> (try (simp [a33, a34] at c3; done)) <;> (try simp only [a33, a34] at f31) <;> simp [*, -Jt3, Qm (e := Je) (el := 27) (fz := false)]
attribute [simp] c66_0 c66_1 c66_2 c66_3 c66_4 c66_5 c66_6 c66_7 c66_8 c66_9 c66_10 c66_11 c66_12
def Xp (p0 : Jo) (p1 : Ja) : Option Jo := (if (band (ieq p0.nozzle.X p1.X) (band (ieq p0.nozzle.Y p1.Y) true)) = true then some (⟨(⟨p0.list.ops⟩ : Kk), p0.r, p0.s, p0.nozzle⟩ : Jo)
 else (J3 (Zs (⟨(⟨p0.list.ops⟩ : Kk), p0.r, p0.s, p0.nozzle⟩ : Jo) p0.s.Travel) fun v4 => (J3 (Jdm p0.r p0.nozzle p1) fun v7 => (if (bnot v7.2) = true then (J3 (Jc0 p0.nozzle p1) fun v11 => (J3 (fsl v11 1 (flen v11)) fun v14 => (if (band (bnot v7.2) (ine p0.s.Retract 0)) = true then (J3 (J0 (⟨(⟨p0.list.ops⟩ : Kk), p0.r, p0.s, p0.nozzle⟩ : Jo) (⟨4, 0, 0, 0, 0, (FS.nil : (FS Ja))⟩ : Kj)) fun v17 => (J3 (J0 (⟨(⟨v17.list.ops⟩ : Kk), v17.r, v17.s, v17.nozzle⟩ : Jo) (⟨2, 0, 0, 0, v4, v14⟩ : Kj)) fun v20 => (J3 (J0 (⟨(⟨v20.list.ops⟩ : Kk), v20.r, v20.s, v20.nozzle⟩ : Jo) (⟨5, 0, 0, 0, 0, (FS.nil : (FS Ja))⟩ : Kj)) fun v23 => some (⟨(⟨v23.list.ops⟩ : Kk), v23.r, v23.s, v23.nozzle⟩ : Jo))))
 else (J3 (J0 (⟨(⟨p0.list.ops⟩ : Kk), p0.r, p0.s, p0.nozzle⟩ : Jo) (⟨2, 0, 0, 0, v4, v14⟩ : Kj)) fun v26 => some (⟨(⟨v26.list.ops⟩ : Kk), v26.r, v26.s, v26.nozzle⟩ : Jo)))))
 else (J3 (fsl v7.1 1 (flen v7.1)) fun v30 => (if (band (bnot v7.2) (ine p0.s.Retract 0)) = true then (J3 (J0 (⟨(⟨p0.list.ops⟩ : Kk), p0.r, p0.s, p0.nozzle⟩ : Jo) (⟨4, 0, 0, 0, 0, (FS.nil : (FS Ja))⟩ : Kj)) fun v33 => (J3 (J0 (⟨(⟨v33.list.ops⟩ : Kk), v33.r, v33.s, v33.nozzle⟩ : Jo) (⟨2, 0, 0, 0, v4, v30⟩ : Kj)) fun v36 => (J3 (J0 (⟨(⟨v36.list.ops⟩ : Kk), v36.r, v36.s, v36.nozzle⟩ : Jo) (⟨5, 0, 0, 0, 0, (FS.nil : (FS Ja))⟩ : Kj)) fun v39 => some (⟨(⟨v39.list.ops⟩ : Kk), v39.r, v39.s, v39.nozzle⟩ : Jo))))
 else (J3 (J0 (⟨(⟨p0.list.ops⟩ : Kk), p0.r, p0.s, p0.nozzle⟩ : Jo) (⟨2, 0, 0, 0, v4, v30⟩ : Kj)) fun v42 => some (⟨(⟨v42.list.ops⟩ : Kk), v42.r, v42.s, v42.nozzle⟩ : Jo))))))))
theorem Jev {p0 : Jo} {p1 : Ja} (e000 : p0.list.ops = FS.nil) {r} (h : Xp p0 p1 = some r) : FC env 66 [.ptr 0 0 0, .agg [.int .i64 p1.X, .int .i64 p1.Y]] (some (hl [(0, .box 0 [.nils, encF Jg p0.r.Rows, .int .i64 p0.s.Pitch, .int .i64 p0.s.Height, .int .i64 p0.s.Walls, .int .i64 p0.s.Top, .int .i64 p0.s.Bottom, .int .i64 p0.s.Pattern, .int .i64 p0.s.Spacing, .bool p0.s.Support, .int .i64 p0.s.Reach, .int .i64 p0.s.Gap, .int .i64 p0.s.Brim, .int .i64 p0.s.Skirt, .int .i64 p0.s.Drop, .int .i64 p0.s.Feed, .int .i64 p0.s.Travel, .int .i64 p0.s.Retract, .int .i64 p0.s.MinTime, .int .i64 p0.s.MinFeed, .int .i64 p0.s.Nozzle, .int .i64 p0.s.Bed, .int .i64 p0.nozzle.X, .int .i64 p0.nozzle.Y])], 0)) = some (.tup [], (zo r.list.ops (hl [(0, .box 0 [.nils, encF Jg r.r.Rows, .int .i64 r.s.Pitch, .int .i64 r.s.Height, .int .i64 r.s.Walls, .int .i64 r.s.Top, .int .i64 r.s.Bottom, .int .i64 r.s.Pattern, .int .i64 r.s.Spacing, .bool r.s.Support, .int .i64 r.s.Reach, .int .i64 r.s.Gap, .int .i64 r.s.Brim, .int .i64 r.s.Skirt, .int .i64 r.s.Drop, .int .i64 r.s.Feed, .int .i64 r.s.Travel, .int .i64 r.s.Retract, .int .i64 r.s.MinTime, .int .i64 r.s.MinFeed, .int .i64 r.s.Nozzle, .int .i64 r.s.Bed, .int .i64 r.nozzle.X, .int .i64 r.nozzle.Y])])
  (fun l0 => hl [(0, .box 0 [.arr 1000000 0 0 l0.l.length, encF Jg r.r.Rows, .int .i64 r.s.Pitch, .int .i64 r.s.Height, .int .i64 r.s.Walls, .int .i64 r.s.Top, .int .i64 r.s.Bottom, .int .i64 r.s.Pattern, .int .i64 r.s.Spacing, .bool r.s.Support, .int .i64 r.s.Reach, .int .i64 r.s.Gap, .int .i64 r.s.Brim, .int .i64 r.s.Skirt, .int .i64 r.s.Drop, .int .i64 r.s.Feed, .int .i64 r.s.Travel, .int .i64 r.s.Retract, .int .i64 r.s.MinTime, .int .i64 r.s.MinFeed, .int .i64 r.s.Nozzle, .int .i64 r.s.Bed, .int .i64 r.nozzle.X, .int .i64 r.nozzle.Y]), (1000000, .arr 0 6 40 (Jp J2 l0.l) false)]))) := by
 unfold Xp at h
 simp only [e000, Jr] at h
 rcases ifC h with ⟨c1, h⟩ | ⟨c1, h⟩
 ·cases h
  refine j7 (lf := lf66) rfl rfl rfl ?_
  simp only [lf66, lc66]
  rcases tof (ieq p0.nozzle.X p1.X) with a2 | a2 <;> rcases tof (ieq p0.nozzle.Y p1.Y) with a3 | a3 <;> (try (simp [a2, a3] at c1; done)) <;> simp [*]
 ·obtain ⟨v6, h5, h⟩ := oS h
  have f4 := Z2 h5
  try simp only [K4] at f4
  obtain ⟨v9, h8, h⟩ := oS h
  have f7 := Jjk h8
  rcases ifC h with ⟨c10, h⟩ | ⟨c10, h⟩
  ·obtain ⟨v13, h12, h⟩ := oS h
   have f11 := Jgh h12
   obtain ⟨v16, h15, h⟩ := oS h
   have f14 := Ji3 (e := Je) h15
   rcases ifC h with ⟨c17, h⟩ | ⟨c17, h⟩
   ·obtain ⟨v19, h18, h⟩ := oS h
    obtain ⟨f20, ⟨l22, e21⟩⟩ := Kw rfl h18
    simp only [e21] at f20
    try simp only [e21] at h
    try simp only [J5, K4, Jj, Jk, Jq, Jv, Jt, Jx, Jw, Ju] at f20
    try simp only [Jj, Jk, Jq, Jv, Jt, Jx, Jw, Ju] at f20
    have f23 : ∀ H : Heap, H 0 = some (.box 0 [.nils, encF Jg p0.r.Rows, .int .i64 p0.s.Pitch, .int .i64 p0.s.Height, .int .i64 p0.s.Walls, .int .i64 p0.s.Top, .int .i64 p0.s.Bottom, .int .i64 p0.s.Pattern, .int .i64 p0.s.Spacing, .bool p0.s.Support, .int .i64 p0.s.Reach, .int .i64 p0.s.Gap, .int .i64 p0.s.Brim, .int .i64 p0.s.Skirt, .int .i64 p0.s.Drop, .int .i64 p0.s.Feed, .int .i64 p0.s.Travel, .int .i64 p0.s.Retract, .int .i64 p0.s.MinTime, .int .i64 p0.s.MinFeed, .int .i64 p0.s.Nozzle, .int .i64 p0.s.Bed, .int .i64 p0.nozzle.X, .int .i64 p0.nozzle.Y]) → H 1000000 = none → Jak (FC env) 24 H [.ptr 0 0 0, .agg [.int .i64 4, .int .i64 0, .int .i64 0, .int .i64 0, .int .i64 0, .nils]] = some (.tup [], upd (upd H 1000000 (some (.arr 0 6 40 (Jp J2 (FS.lst l22).l) false))) 0 (some (.box 0 [.arr 1000000 0 0 (FS.lst l22).l.length, encF Jg v19.r.Rows, .int .i64 v19.s.Pitch, .int .i64 v19.s.Height, .int .i64 v19.s.Walls, .int .i64 v19.s.Top, .int .i64 v19.s.Bottom, .int .i64 v19.s.Pattern, .int .i64 v19.s.Spacing, .bool v19.s.Support, .int .i64 v19.s.Reach, .int .i64 v19.s.Gap, .int .i64 v19.s.Brim, .int .i64 v19.s.Skirt, .int .i64 v19.s.Drop, .int .i64 v19.s.Feed, .int .i64 v19.s.Travel, .int .i64 v19.s.Retract, .int .i64 v19.s.MinTime, .int .i64 v19.s.MinFeed, .int .i64 v19.s.Nozzle, .int .i64 v19.s.Bed, .int .i64 v19.nozzle.X, .int .i64 v19.nozzle.Y]))) := by
      intro H q0 q1
      simp [*, q0, q1]
    obtain ⟨v25, h24, h⟩ := oS h
    obtain ⟨f26, ⟨l28, e27⟩⟩ := J1 rfl h24
    simp only [e27] at f26
    try simp only [e27] at h
    try simp only [J5, K4, Jj, Jk, Jq, Jv, Jt, Jx, Jw, Ju] at f26
    try simp only [Jj, Jk, Jq, Jv, Jt, Jx, Jw, Ju] at f26
    have f29 : ∀ H : Heap, H 0 = some (.box 0 [.arr 1000000 0 0 (FS.lst l22).l.length, encF Jg v19.r.Rows, .int .i64 v19.s.Pitch, .int .i64 v19.s.Height, .int .i64 v19.s.Walls, .int .i64 v19.s.Top, .int .i64 v19.s.Bottom, .int .i64 v19.s.Pattern, .int .i64 v19.s.Spacing, .bool v19.s.Support, .int .i64 v19.s.Reach, .int .i64 v19.s.Gap, .int .i64 v19.s.Brim, .int .i64 v19.s.Skirt, .int .i64 v19.s.Drop, .int .i64 v19.s.Feed, .int .i64 v19.s.Travel, .int .i64 v19.s.Retract, .int .i64 v19.s.MinTime, .int .i64 v19.s.MinFeed, .int .i64 v19.s.Nozzle, .int .i64 v19.s.Bed, .int .i64 v19.nozzle.X, .int .i64 v19.nozzle.Y]) → H 1000000 = some (.arr 0 6 40 (Jp J2 (FS.lst l22).l) false) → Jak (FC env) 24 H [.ptr 0 0 0, .agg [.int .i64 2, .int .i64 0, .int .i64 0, .int .i64 0, .int .i64 v6, encF Je v16]] = some (.tup [], upd (upd H 1000000 (some (.arr 1 6 40 (Jp J2 (FS.lst l28).l) false))) 0 (some (.box 0 [.arr 1000000 1 0 (FS.lst l28).l.length, encF Jg v25.r.Rows, .int .i64 v25.s.Pitch, .int .i64 v25.s.Height, .int .i64 v25.s.Walls, .int .i64 v25.s.Top, .int .i64 v25.s.Bottom, .int .i64 v25.s.Pattern, .int .i64 v25.s.Spacing, .bool v25.s.Support, .int .i64 v25.s.Reach, .int .i64 v25.s.Gap, .int .i64 v25.s.Brim, .int .i64 v25.s.Skirt, .int .i64 v25.s.Drop, .int .i64 v25.s.Feed, .int .i64 v25.s.Travel, .int .i64 v25.s.Retract, .int .i64 v25.s.MinTime, .int .i64 v25.s.MinFeed, .int .i64 v25.s.Nozzle, .int .i64 v25.s.Bed, .int .i64 v25.nozzle.X, .int .i64 v25.nozzle.Y]))) := by
      intro H q0 q1
      simp [*, q0, q1]
    obtain ⟨v31, h30, h⟩ := oS h
    obtain ⟨f32, ⟨l34, e33⟩⟩ := J1 rfl h30
    simp only [e33] at f32
    try simp only [e33] at h
    try simp only [J5, K4, Jj, Jk, Jq, Jv, Jt, Jx, Jw, Ju] at f32
    try simp only [Jj, Jk, Jq, Jv, Jt, Jx, Jw, Ju] at f32
    have f35 : ∀ H : Heap, H 0 = some (.box 0 [.arr 1000000 1 0 (FS.lst l28).l.length, encF Jg v25.r.Rows, .int .i64 v25.s.Pitch, .int .i64 v25.s.Height, .int .i64 v25.s.Walls, .int .i64 v25.s.Top, .int .i64 v25.s.Bottom, .int .i64 v25.s.Pattern, .int .i64 v25.s.Spacing, .bool v25.s.Support, .int .i64 v25.s.Reach, .int .i64 v25.s.Gap, .int .i64 v25.s.Brim, .int .i64 v25.s.Skirt, .int .i64 v25.s.Drop, .int .i64 v25.s.Feed, .int .i64 v25.s.Travel, .int .i64 v25.s.Retract, .int .i64 v25.s.MinTime, .int .i64 v25.s.MinFeed, .int .i64 v25.s.Nozzle, .int .i64 v25.s.Bed, .int .i64 v25.nozzle.X, .int .i64 v25.nozzle.Y]) → H 1000000 = some (.arr 1 6 40 (Jp J2 (FS.lst l28).l) false) → Jak (FC env) 24 H [.ptr 0 0 0, .agg [.int .i64 5, .int .i64 0, .int .i64 0, .int .i64 0, .int .i64 0, .nils]] = some (.tup [], upd (upd H 1000000 (some (.arr 2 6 40 (Jp J2 (FS.lst l34).l) false))) 0 (some (.box 0 [.arr 1000000 2 0 (FS.lst l34).l.length, encF Jg v31.r.Rows, .int .i64 v31.s.Pitch, .int .i64 v31.s.Height, .int .i64 v31.s.Walls, .int .i64 v31.s.Top, .int .i64 v31.s.Bottom, .int .i64 v31.s.Pattern, .int .i64 v31.s.Spacing, .bool v31.s.Support, .int .i64 v31.s.Reach, .int .i64 v31.s.Gap, .int .i64 v31.s.Brim, .int .i64 v31.s.Skirt, .int .i64 v31.s.Drop, .int .i64 v31.s.Feed, .int .i64 v31.s.Travel, .int .i64 v31.s.Retract, .int .i64 v31.s.MinTime, .int .i64 v31.s.MinFeed, .int .i64 v31.s.Nozzle, .int .i64 v31.s.Bed, .int .i64 v31.nozzle.X, .int .i64 v31.nozzle.Y]))) := by
      intro H q0 q1
      simp [*, q0, q1]
    cases h
    refine j7 (lf := lf66) rfl rfl rfl ?_
    simp only [lf66, lc66]
    rcases tof (ieq p0.nozzle.X p1.X) with a36 | a36 <;> rcases tof (ieq p0.nozzle.Y p1.Y) with a37 | a37 <;> rcases tof v9.2 with a38 | a38 <;> rcases tof (ine p0.s.Retract 0) with a39 | a39 <;> (try (simp [a36, a37, a38, a39] at c1 c10 c17; done)) <;> (try simp only [a36, a37, a38, a39] at f4 f20 f26 f32) <;> simp [*, -Qr]
   ·obtain ⟨v41, h40, h⟩ := oS h
    obtain ⟨f42, ⟨l44, e43⟩⟩ := Kw rfl h40
    simp only [e43] at f42
    try simp only [e43] at h
    try simp only [J5, K4, Jj, Jk, Jq, Jv, Jt, Jx, Jw, Ju] at f42
    try simp only [Jj, Jk, Jq, Jv, Jt, Jx, Jw, Ju] at f42
    have f45 : ∀ H : Heap, H 0 = some (.box 0 [.nils, encF Jg p0.r.Rows, .int .i64 p0.s.Pitch, .int .i64 p0.s.Height, .int .i64 p0.s.Walls, .int .i64 p0.s.Top, .int .i64 p0.s.Bottom, .int .i64 p0.s.Pattern, .int .i64 p0.s.Spacing, .bool p0.s.Support, .int .i64 p0.s.Reach, .int .i64 p0.s.Gap, .int .i64 p0.s.Brim, .int .i64 p0.s.Skirt, .int .i64 p0.s.Drop, .int .i64 p0.s.Feed, .int .i64 p0.s.Travel, .int .i64 p0.s.Retract, .int .i64 p0.s.MinTime, .int .i64 p0.s.MinFeed, .int .i64 p0.s.Nozzle, .int .i64 p0.s.Bed, .int .i64 p0.nozzle.X, .int .i64 p0.nozzle.Y]) → H 1000000 = none → Jak (FC env) 24 H [.ptr 0 0 0, .agg [.int .i64 2, .int .i64 0, .int .i64 0, .int .i64 0, .int .i64 v6, encF Je v16]] = some (.tup [], upd (upd H 1000000 (some (.arr 0 6 40 (Jp J2 (FS.lst l44).l) false))) 0 (some (.box 0 [.arr 1000000 0 0 (FS.lst l44).l.length, encF Jg v41.r.Rows, .int .i64 v41.s.Pitch, .int .i64 v41.s.Height, .int .i64 v41.s.Walls, .int .i64 v41.s.Top, .int .i64 v41.s.Bottom, .int .i64 v41.s.Pattern, .int .i64 v41.s.Spacing, .bool v41.s.Support, .int .i64 v41.s.Reach, .int .i64 v41.s.Gap, .int .i64 v41.s.Brim, .int .i64 v41.s.Skirt, .int .i64 v41.s.Drop, .int .i64 v41.s.Feed, .int .i64 v41.s.Travel, .int .i64 v41.s.Retract, .int .i64 v41.s.MinTime, .int .i64 v41.s.MinFeed, .int .i64 v41.s.Nozzle, .int .i64 v41.s.Bed, .int .i64 v41.nozzle.X, .int .i64 v41.nozzle.Y]))) := by
      intro H q0 q1
      simp [*, q0, q1]
    cases h
    refine j7 (lf := lf66) rfl rfl rfl ?_
    simp only [lf66, lc66]
    rcases tof (ieq p0.nozzle.X p1.X) with a46 | a46 <;> rcases tof (ieq p0.nozzle.Y p1.Y) with a47 | a47 <;> rcases tof v9.2 with a48 | a48 <;> rcases tof (ine p0.s.Retract 0) with a49 | a49 <;> (try (simp [a46, a47, a48, a49] at c1 c10 c17; done)) <;> (try simp only [a46, a47, a48, a49] at f4 f42) <;> simp [*, -Qr]
  ·obtain ⟨v52, h51, h⟩ := oS h
   have f50 := Ji3 (e := Je) h51
   rcases ifC h with ⟨c53, h⟩ | ⟨c53, h⟩
   ·obtain ⟨v55, h54, h⟩ := oS h
    obtain ⟨f56, ⟨l58, e57⟩⟩ := Kw rfl h54
    simp only [e57] at f56
    try simp only [e57] at h
    try simp only [J5, K4, Jj, Jk, Jq, Jv, Jt, Jx, Jw, Ju] at f56
    try simp only [Jj, Jk, Jq, Jv, Jt, Jx, Jw, Ju] at f56
    have f59 : ∀ H : Heap, H 0 = some (.box 0 [.nils, encF Jg p0.r.Rows, .int .i64 p0.s.Pitch, .int .i64 p0.s.Height, .int .i64 p0.s.Walls, .int .i64 p0.s.Top, .int .i64 p0.s.Bottom, .int .i64 p0.s.Pattern, .int .i64 p0.s.Spacing, .bool p0.s.Support, .int .i64 p0.s.Reach, .int .i64 p0.s.Gap, .int .i64 p0.s.Brim, .int .i64 p0.s.Skirt, .int .i64 p0.s.Drop, .int .i64 p0.s.Feed, .int .i64 p0.s.Travel, .int .i64 p0.s.Retract, .int .i64 p0.s.MinTime, .int .i64 p0.s.MinFeed, .int .i64 p0.s.Nozzle, .int .i64 p0.s.Bed, .int .i64 p0.nozzle.X, .int .i64 p0.nozzle.Y]) → H 1000000 = none → Jak (FC env) 24 H [.ptr 0 0 0, .agg [.int .i64 4, .int .i64 0, .int .i64 0, .int .i64 0, .int .i64 0, .nils]] = some (.tup [], upd (upd H 1000000 (some (.arr 0 6 40 (Jp J2 (FS.lst l58).l) false))) 0 (some (.box 0 [.arr 1000000 0 0 (FS.lst l58).l.length, encF Jg v55.r.Rows, .int .i64 v55.s.Pitch, .int .i64 v55.s.Height, .int .i64 v55.s.Walls, .int .i64 v55.s.Top, .int .i64 v55.s.Bottom, .int .i64 v55.s.Pattern, .int .i64 v55.s.Spacing, .bool v55.s.Support, .int .i64 v55.s.Reach, .int .i64 v55.s.Gap, .int .i64 v55.s.Brim, .int .i64 v55.s.Skirt, .int .i64 v55.s.Drop, .int .i64 v55.s.Feed, .int .i64 v55.s.Travel, .int .i64 v55.s.Retract, .int .i64 v55.s.MinTime, .int .i64 v55.s.MinFeed, .int .i64 v55.s.Nozzle, .int .i64 v55.s.Bed, .int .i64 v55.nozzle.X, .int .i64 v55.nozzle.Y]))) := by
      intro H q0 q1
      simp [*, q0, q1]
    obtain ⟨v61, h60, h⟩ := oS h
    obtain ⟨f62, ⟨l64, e63⟩⟩ := J1 rfl h60
    simp only [e63] at f62
    try simp only [e63] at h
    try simp only [J5, K4, Jj, Jk, Jq, Jv, Jt, Jx, Jw, Ju] at f62
    try simp only [Jj, Jk, Jq, Jv, Jt, Jx, Jw, Ju] at f62
    have f65 : ∀ H : Heap, H 0 = some (.box 0 [.arr 1000000 0 0 (FS.lst l58).l.length, encF Jg v55.r.Rows, .int .i64 v55.s.Pitch, .int .i64 v55.s.Height, .int .i64 v55.s.Walls, .int .i64 v55.s.Top, .int .i64 v55.s.Bottom, .int .i64 v55.s.Pattern, .int .i64 v55.s.Spacing, .bool v55.s.Support, .int .i64 v55.s.Reach, .int .i64 v55.s.Gap, .int .i64 v55.s.Brim, .int .i64 v55.s.Skirt, .int .i64 v55.s.Drop, .int .i64 v55.s.Feed, .int .i64 v55.s.Travel, .int .i64 v55.s.Retract, .int .i64 v55.s.MinTime, .int .i64 v55.s.MinFeed, .int .i64 v55.s.Nozzle, .int .i64 v55.s.Bed, .int .i64 v55.nozzle.X, .int .i64 v55.nozzle.Y]) → H 1000000 = some (.arr 0 6 40 (Jp J2 (FS.lst l58).l) false) → Jak (FC env) 24 H [.ptr 0 0 0, .agg [.int .i64 2, .int .i64 0, .int .i64 0, .int .i64 0, .int .i64 v6, encF Je v52]] = some (.tup [], upd (upd H 1000000 (some (.arr 1 6 40 (Jp J2 (FS.lst l64).l) false))) 0 (some (.box 0 [.arr 1000000 1 0 (FS.lst l64).l.length, encF Jg v61.r.Rows, .int .i64 v61.s.Pitch, .int .i64 v61.s.Height, .int .i64 v61.s.Walls, .int .i64 v61.s.Top, .int .i64 v61.s.Bottom, .int .i64 v61.s.Pattern, .int .i64 v61.s.Spacing, .bool v61.s.Support, .int .i64 v61.s.Reach, .int .i64 v61.s.Gap, .int .i64 v61.s.Brim, .int .i64 v61.s.Skirt, .int .i64 v61.s.Drop, .int .i64 v61.s.Feed, .int .i64 v61.s.Travel, .int .i64 v61.s.Retract, .int .i64 v61.s.MinTime, .int .i64 v61.s.MinFeed, .int .i64 v61.s.Nozzle, .int .i64 v61.s.Bed, .int .i64 v61.nozzle.X, .int .i64 v61.nozzle.Y]))) := by
      intro H q0 q1
      simp [*, q0, q1]
    obtain ⟨v67, h66, h⟩ := oS h
    obtain ⟨f68, ⟨l70, e69⟩⟩ := J1 rfl h66
    simp only [e69] at f68
    try simp only [e69] at h
    try simp only [J5, K4, Jj, Jk, Jq, Jv, Jt, Jx, Jw, Ju] at f68
    try simp only [Jj, Jk, Jq, Jv, Jt, Jx, Jw, Ju] at f68
    have f71 : ∀ H : Heap, H 0 = some (.box 0 [.arr 1000000 1 0 (FS.lst l64).l.length, encF Jg v61.r.Rows, .int .i64 v61.s.Pitch, .int .i64 v61.s.Height, .int .i64 v61.s.Walls, .int .i64 v61.s.Top, .int .i64 v61.s.Bottom, .int .i64 v61.s.Pattern, .int .i64 v61.s.Spacing, .bool v61.s.Support, .int .i64 v61.s.Reach, .int .i64 v61.s.Gap, .int .i64 v61.s.Brim, .int .i64 v61.s.Skirt, .int .i64 v61.s.Drop, .int .i64 v61.s.Feed, .int .i64 v61.s.Travel, .int .i64 v61.s.Retract, .int .i64 v61.s.MinTime, .int .i64 v61.s.MinFeed, .int .i64 v61.s.Nozzle, .int .i64 v61.s.Bed, .int .i64 v61.nozzle.X, .int .i64 v61.nozzle.Y]) → H 1000000 = some (.arr 1 6 40 (Jp J2 (FS.lst l64).l) false) → Jak (FC env) 24 H [.ptr 0 0 0, .agg [.int .i64 5, .int .i64 0, .int .i64 0, .int .i64 0, .int .i64 0, .nils]] = some (.tup [], upd (upd H 1000000 (some (.arr 2 6 40 (Jp J2 (FS.lst l70).l) false))) 0 (some (.box 0 [.arr 1000000 2 0 (FS.lst l70).l.length, encF Jg v67.r.Rows, .int .i64 v67.s.Pitch, .int .i64 v67.s.Height, .int .i64 v67.s.Walls, .int .i64 v67.s.Top, .int .i64 v67.s.Bottom, .int .i64 v67.s.Pattern, .int .i64 v67.s.Spacing, .bool v67.s.Support, .int .i64 v67.s.Reach, .int .i64 v67.s.Gap, .int .i64 v67.s.Brim, .int .i64 v67.s.Skirt, .int .i64 v67.s.Drop, .int .i64 v67.s.Feed, .int .i64 v67.s.Travel, .int .i64 v67.s.Retract, .int .i64 v67.s.MinTime, .int .i64 v67.s.MinFeed, .int .i64 v67.s.Nozzle, .int .i64 v67.s.Bed, .int .i64 v67.nozzle.X, .int .i64 v67.nozzle.Y]))) := by
      intro H q0 q1
      simp [*, q0, q1]
    cases h
    refine j7 (lf := lf66) rfl rfl rfl ?_
    simp only [lf66, lc66]
    rcases tof (ieq p0.nozzle.X p1.X) with a72 | a72 <;> rcases tof (ieq p0.nozzle.Y p1.Y) with a73 | a73 <;> rcases tof v9.2 with a74 | a74 <;> (try (simp [a72, a73, a74] at c1 c53 c10; done)) <;> (try simp only [a72, a73, a74] at f4 f56 f62 f68) <;> simp [*, -Qr]
   ·obtain ⟨v76, h75, h⟩ := oS h
    obtain ⟨f77, ⟨l79, e78⟩⟩ := Kw rfl h75
    simp only [e78] at f77
    try simp only [e78] at h
    try simp only [J5, K4, Jj, Jk, Jq, Jv, Jt, Jx, Jw, Ju] at f77
    try simp only [Jj, Jk, Jq, Jv, Jt, Jx, Jw, Ju] at f77
    have f80 : ∀ H : Heap, H 0 = some (.box 0 [.nils, encF Jg p0.r.Rows, .int .i64 p0.s.Pitch, .int .i64 p0.s.Height, .int .i64 p0.s.Walls, .int .i64 p0.s.Top, .int .i64 p0.s.Bottom, .int .i64 p0.s.Pattern, .int .i64 p0.s.Spacing, .bool p0.s.Support, .int .i64 p0.s.Reach, .int .i64 p0.s.Gap, .int .i64 p0.s.Brim, .int .i64 p0.s.Skirt, .int .i64 p0.s.Drop, .int .i64 p0.s.Feed, .int .i64 p0.s.Travel, .int .i64 p0.s.Retract, .int .i64 p0.s.MinTime, .int .i64 p0.s.MinFeed, .int .i64 p0.s.Nozzle, .int .i64 p0.s.Bed, .int .i64 p0.nozzle.X, .int .i64 p0.nozzle.Y]) → H 1000000 = none → Jak (FC env) 24 H [.ptr 0 0 0, .agg [.int .i64 2, .int .i64 0, .int .i64 0, .int .i64 0, .int .i64 v6, encF Je v52]] = some (.tup [], upd (upd H 1000000 (some (.arr 0 6 40 (Jp J2 (FS.lst l79).l) false))) 0 (some (.box 0 [.arr 1000000 0 0 (FS.lst l79).l.length, encF Jg v76.r.Rows, .int .i64 v76.s.Pitch, .int .i64 v76.s.Height, .int .i64 v76.s.Walls, .int .i64 v76.s.Top, .int .i64 v76.s.Bottom, .int .i64 v76.s.Pattern, .int .i64 v76.s.Spacing, .bool v76.s.Support, .int .i64 v76.s.Reach, .int .i64 v76.s.Gap, .int .i64 v76.s.Brim, .int .i64 v76.s.Skirt, .int .i64 v76.s.Drop, .int .i64 v76.s.Feed, .int .i64 v76.s.Travel, .int .i64 v76.s.Retract, .int .i64 v76.s.MinTime, .int .i64 v76.s.MinFeed, .int .i64 v76.s.Nozzle, .int .i64 v76.s.Bed, .int .i64 v76.nozzle.X, .int .i64 v76.nozzle.Y]))) := by
      intro H q0 q1
      simp [*, q0, q1]
    cases h
    refine j7 (lf := lf66) rfl rfl rfl ?_
    simp only [lf66, lc66]
    rcases tof (ieq p0.nozzle.X p1.X) with a81 | a81 <;> rcases tof (ieq p0.nozzle.Y p1.Y) with a82 | a82 <;> rcases tof v9.2 with a83 | a83 <;> (try (simp [a81, a82, a83] at c1 c10; done)) <;> (try simp only [a81, a82, a83] at f4 f77) <;> simp [*, -Qr]
theorem Jeu {p0 : Jo} {p1 : Ja} {le000 : List Kj} (e000 : p0.list.ops = FS.lst le000) {r} (h : Xp p0 p1 = some r) : FC env 66 [.ptr 0 0 0, .agg [.int .i64 p1.X, .int .i64 p1.Y]] (some (hl [(0, .box 0 [.arr 1000000 0 0 p0.list.ops.l.length, encF Jg p0.r.Rows, .int .i64 p0.s.Pitch, .int .i64 p0.s.Height, .int .i64 p0.s.Walls, .int .i64 p0.s.Top, .int .i64 p0.s.Bottom, .int .i64 p0.s.Pattern, .int .i64 p0.s.Spacing, .bool p0.s.Support, .int .i64 p0.s.Reach, .int .i64 p0.s.Gap, .int .i64 p0.s.Brim, .int .i64 p0.s.Skirt, .int .i64 p0.s.Drop, .int .i64 p0.s.Feed, .int .i64 p0.s.Travel, .int .i64 p0.s.Retract, .int .i64 p0.s.MinTime, .int .i64 p0.s.MinFeed, .int .i64 p0.s.Nozzle, .int .i64 p0.s.Bed, .int .i64 p0.nozzle.X, .int .i64 p0.nozzle.Y]), (1000000, .arr 0 6 40 (Jp J2 p0.list.ops.l) false)], 0)) = some (.tup [], hl [(0, .box 0 [.arr 1000000 0 0 r.list.ops.l.length, encF Jg r.r.Rows, .int .i64 r.s.Pitch, .int .i64 r.s.Height, .int .i64 r.s.Walls, .int .i64 r.s.Top, .int .i64 r.s.Bottom, .int .i64 r.s.Pattern, .int .i64 r.s.Spacing, .bool r.s.Support, .int .i64 r.s.Reach, .int .i64 r.s.Gap, .int .i64 r.s.Brim, .int .i64 r.s.Skirt, .int .i64 r.s.Drop, .int .i64 r.s.Feed, .int .i64 r.s.Travel, .int .i64 r.s.Retract, .int .i64 r.s.MinTime, .int .i64 r.s.MinFeed, .int .i64 r.s.Nozzle, .int .i64 r.s.Bed, .int .i64 r.nozzle.X, .int .i64 r.nozzle.Y]), (1000000, .arr 0 6 40 (Jp J2 r.list.ops.l) false)]) ∧ ∃ l, r.list.ops = FS.lst l := by
 unfold Xp at h
 simp only [e000, Jr] at h
 rcases ifC h with ⟨c1, h⟩ | ⟨c1, h⟩
 ·cases h
  refine ⟨?_, by first | exact ⟨_, rfl⟩ | exact ⟨_, by assumption⟩⟩
  refine j7 (lf := lf66) rfl rfl rfl ?_
  simp only [lf66, lc66]
  rcases tof (ieq p0.nozzle.X p1.X) with a2 | a2 <;> rcases tof (ieq p0.nozzle.Y p1.Y) with a3 | a3 <;> (try (simp [a2, a3] at c1; done)) <;> simp [*]
 ·obtain ⟨v6, h5, h⟩ := oS h
  have f4 := Z2 h5
  obtain ⟨v9, h8, h⟩ := oS h
  have f7 := Jjk h8
  rcases ifC h with ⟨c10, h⟩ | ⟨c10, h⟩
  ·obtain ⟨v13, h12, h⟩ := oS h
   have f11 := Jgh h12
   obtain ⟨v16, h15, h⟩ := oS h
   have f14 := Ji3 (e := Je) h15
   rcases ifC h with ⟨c17, h⟩ | ⟨c17, h⟩
   ·obtain ⟨v19, h18, h⟩ := oS h
    obtain ⟨f20, ⟨l22, e21⟩⟩ := J1 rfl h18
    simp only [e21] at f20
    try simp only [e21] at h
    try simp only [J5, K4, Jj, Jk, Jq, Jv, Jt, Jx, Jw, Ju] at f20
    try simp only [Jj, Jk, Jq, Jv, Jt, Jx, Jw, Ju] at f20
    have f23 : ∀ H : Heap, H 0 = some (.box 0 [.arr 1000000 0 0 (FS.lst le000).l.length, encF Jg p0.r.Rows, .int .i64 p0.s.Pitch, .int .i64 p0.s.Height, .int .i64 p0.s.Walls, .int .i64 p0.s.Top, .int .i64 p0.s.Bottom, .int .i64 p0.s.Pattern, .int .i64 p0.s.Spacing, .bool p0.s.Support, .int .i64 p0.s.Reach, .int .i64 p0.s.Gap, .int .i64 p0.s.Brim, .int .i64 p0.s.Skirt, .int .i64 p0.s.Drop, .int .i64 p0.s.Feed, .int .i64 p0.s.Travel, .int .i64 p0.s.Retract, .int .i64 p0.s.MinTime, .int .i64 p0.s.MinFeed, .int .i64 p0.s.Nozzle, .int .i64 p0.s.Bed, .int .i64 p0.nozzle.X, .int .i64 p0.nozzle.Y]) → H 1000000 = some (.arr 0 6 40 (Jp J2 (FS.lst le000).l) false) → Jak (FC env) 24 H [.ptr 0 0 0, .agg [.int .i64 4, .int .i64 0, .int .i64 0, .int .i64 0, .int .i64 0, .nils]] = some (.tup [], upd (upd H 1000000 (some (.arr 1 6 40 (Jp J2 (FS.lst l22).l) false))) 0 (some (.box 0 [.arr 1000000 1 0 (FS.lst l22).l.length, encF Jg v19.r.Rows, .int .i64 v19.s.Pitch, .int .i64 v19.s.Height, .int .i64 v19.s.Walls, .int .i64 v19.s.Top, .int .i64 v19.s.Bottom, .int .i64 v19.s.Pattern, .int .i64 v19.s.Spacing, .bool v19.s.Support, .int .i64 v19.s.Reach, .int .i64 v19.s.Gap, .int .i64 v19.s.Brim, .int .i64 v19.s.Skirt, .int .i64 v19.s.Drop, .int .i64 v19.s.Feed, .int .i64 v19.s.Travel, .int .i64 v19.s.Retract, .int .i64 v19.s.MinTime, .int .i64 v19.s.MinFeed, .int .i64 v19.s.Nozzle, .int .i64 v19.s.Bed, .int .i64 v19.nozzle.X, .int .i64 v19.nozzle.Y]))) := by
      intro H q0 q1
      simp [*, q0, q1]
    obtain ⟨v25, h24, h⟩ := oS h
    obtain ⟨f26, ⟨l28, e27⟩⟩ := J1 rfl h24
    simp only [e27] at f26
    try simp only [e27] at h
    try simp only [J5, K4, Jj, Jk, Jq, Jv, Jt, Jx, Jw, Ju] at f26
    try simp only [Jj, Jk, Jq, Jv, Jt, Jx, Jw, Ju] at f26
    have f29 : ∀ H : Heap, H 0 = some (.box 0 [.arr 1000000 1 0 (FS.lst l22).l.length, encF Jg v19.r.Rows, .int .i64 v19.s.Pitch, .int .i64 v19.s.Height, .int .i64 v19.s.Walls, .int .i64 v19.s.Top, .int .i64 v19.s.Bottom, .int .i64 v19.s.Pattern, .int .i64 v19.s.Spacing, .bool v19.s.Support, .int .i64 v19.s.Reach, .int .i64 v19.s.Gap, .int .i64 v19.s.Brim, .int .i64 v19.s.Skirt, .int .i64 v19.s.Drop, .int .i64 v19.s.Feed, .int .i64 v19.s.Travel, .int .i64 v19.s.Retract, .int .i64 v19.s.MinTime, .int .i64 v19.s.MinFeed, .int .i64 v19.s.Nozzle, .int .i64 v19.s.Bed, .int .i64 v19.nozzle.X, .int .i64 v19.nozzle.Y]) → H 1000000 = some (.arr 1 6 40 (Jp J2 (FS.lst l22).l) false) → Jak (FC env) 24 H [.ptr 0 0 0, .agg [.int .i64 2, .int .i64 0, .int .i64 0, .int .i64 0, .int .i64 v6, encF Je v16]] = some (.tup [], upd (upd H 1000000 (some (.arr 2 6 40 (Jp J2 (FS.lst l28).l) false))) 0 (some (.box 0 [.arr 1000000 2 0 (FS.lst l28).l.length, encF Jg v25.r.Rows, .int .i64 v25.s.Pitch, .int .i64 v25.s.Height, .int .i64 v25.s.Walls, .int .i64 v25.s.Top, .int .i64 v25.s.Bottom, .int .i64 v25.s.Pattern, .int .i64 v25.s.Spacing, .bool v25.s.Support, .int .i64 v25.s.Reach, .int .i64 v25.s.Gap, .int .i64 v25.s.Brim, .int .i64 v25.s.Skirt, .int .i64 v25.s.Drop, .int .i64 v25.s.Feed, .int .i64 v25.s.Travel, .int .i64 v25.s.Retract, .int .i64 v25.s.MinTime, .int .i64 v25.s.MinFeed, .int .i64 v25.s.Nozzle, .int .i64 v25.s.Bed, .int .i64 v25.nozzle.X, .int .i64 v25.nozzle.Y]))) := by
      intro H q0 q1
      simp [*, q0, q1]
    obtain ⟨v31, h30, h⟩ := oS h
    obtain ⟨f32, ⟨l34, e33⟩⟩ := J1 rfl h30
    simp only [e33] at f32
    try simp only [e33] at h
    try simp only [J5, K4, Jj, Jk, Jq, Jv, Jt, Jx, Jw, Ju] at f32
    try simp only [Jj, Jk, Jq, Jv, Jt, Jx, Jw, Ju] at f32
    have f35 : ∀ H : Heap, H 0 = some (.box 0 [.arr 1000000 2 0 (FS.lst l28).l.length, encF Jg v25.r.Rows, .int .i64 v25.s.Pitch, .int .i64 v25.s.Height, .int .i64 v25.s.Walls, .int .i64 v25.s.Top, .int .i64 v25.s.Bottom, .int .i64 v25.s.Pattern, .int .i64 v25.s.Spacing, .bool v25.s.Support, .int .i64 v25.s.Reach, .int .i64 v25.s.Gap, .int .i64 v25.s.Brim, .int .i64 v25.s.Skirt, .int .i64 v25.s.Drop, .int .i64 v25.s.Feed, .int .i64 v25.s.Travel, .int .i64 v25.s.Retract, .int .i64 v25.s.MinTime, .int .i64 v25.s.MinFeed, .int .i64 v25.s.Nozzle, .int .i64 v25.s.Bed, .int .i64 v25.nozzle.X, .int .i64 v25.nozzle.Y]) → H 1000000 = some (.arr 2 6 40 (Jp J2 (FS.lst l28).l) false) → Jak (FC env) 24 H [.ptr 0 0 0, .agg [.int .i64 5, .int .i64 0, .int .i64 0, .int .i64 0, .int .i64 0, .nils]] = some (.tup [], upd (upd H 1000000 (some (.arr 3 6 40 (Jp J2 (FS.lst l34).l) false))) 0 (some (.box 0 [.arr 1000000 3 0 (FS.lst l34).l.length, encF Jg v31.r.Rows, .int .i64 v31.s.Pitch, .int .i64 v31.s.Height, .int .i64 v31.s.Walls, .int .i64 v31.s.Top, .int .i64 v31.s.Bottom, .int .i64 v31.s.Pattern, .int .i64 v31.s.Spacing, .bool v31.s.Support, .int .i64 v31.s.Reach, .int .i64 v31.s.Gap, .int .i64 v31.s.Brim, .int .i64 v31.s.Skirt, .int .i64 v31.s.Drop, .int .i64 v31.s.Feed, .int .i64 v31.s.Travel, .int .i64 v31.s.Retract, .int .i64 v31.s.MinTime, .int .i64 v31.s.MinFeed, .int .i64 v31.s.Nozzle, .int .i64 v31.s.Bed, .int .i64 v31.nozzle.X, .int .i64 v31.nozzle.Y]))) := by
      intro H q0 q1
      simp [*, q0, q1]
    cases h
    refine ⟨?_, by first | exact ⟨_, rfl⟩ | exact ⟨_, by assumption⟩⟩
    refine j7 (lf := lf66) rfl rfl rfl ?_
    simp only [lf66, lc66]
    rcases tof (ieq p0.nozzle.X p1.X) with a36 | a36 <;> rcases tof (ieq p0.nozzle.Y p1.Y) with a37 | a37 <;> rcases tof v9.2 with a38 | a38 <;> rcases tof (ine p0.s.Retract 0) with a39 | a39 <;> (try (simp [a36, a37, a38, a39] at c1 c10 c17; done)) <;> (try simp only [a36, a37, a38, a39] at f4 f20 f26 f32) <;> simp [*, -Qr, Qm (e := J2) (el := 40) (fz := false)]
   ·obtain ⟨v41, h40, h⟩ := oS h
    obtain ⟨f42, ⟨l44, e43⟩⟩ := J1 rfl h40
    simp only [e43] at f42
    try simp only [e43] at h
    try simp only [J5, K4, Jj, Jk, Jq, Jv, Jt, Jx, Jw, Ju] at f42
    try simp only [Jj, Jk, Jq, Jv, Jt, Jx, Jw, Ju] at f42
    have f45 : ∀ H : Heap, H 0 = some (.box 0 [.arr 1000000 0 0 (FS.lst le000).l.length, encF Jg p0.r.Rows, .int .i64 p0.s.Pitch, .int .i64 p0.s.Height, .int .i64 p0.s.Walls, .int .i64 p0.s.Top, .int .i64 p0.s.Bottom, .int .i64 p0.s.Pattern, .int .i64 p0.s.Spacing, .bool p0.s.Support, .int .i64 p0.s.Reach, .int .i64 p0.s.Gap, .int .i64 p0.s.Brim, .int .i64 p0.s.Skirt, .int .i64 p0.s.Drop, .int .i64 p0.s.Feed, .int .i64 p0.s.Travel, .int .i64 p0.s.Retract, .int .i64 p0.s.MinTime, .int .i64 p0.s.MinFeed, .int .i64 p0.s.Nozzle, .int .i64 p0.s.Bed, .int .i64 p0.nozzle.X, .int .i64 p0.nozzle.Y]) → H 1000000 = some (.arr 0 6 40 (Jp J2 (FS.lst le000).l) false) → Jak (FC env) 24 H [.ptr 0 0 0, .agg [.int .i64 2, .int .i64 0, .int .i64 0, .int .i64 0, .int .i64 v6, encF Je v16]] = some (.tup [], upd (upd H 1000000 (some (.arr 1 6 40 (Jp J2 (FS.lst l44).l) false))) 0 (some (.box 0 [.arr 1000000 1 0 (FS.lst l44).l.length, encF Jg v41.r.Rows, .int .i64 v41.s.Pitch, .int .i64 v41.s.Height, .int .i64 v41.s.Walls, .int .i64 v41.s.Top, .int .i64 v41.s.Bottom, .int .i64 v41.s.Pattern, .int .i64 v41.s.Spacing, .bool v41.s.Support, .int .i64 v41.s.Reach, .int .i64 v41.s.Gap, .int .i64 v41.s.Brim, .int .i64 v41.s.Skirt, .int .i64 v41.s.Drop, .int .i64 v41.s.Feed, .int .i64 v41.s.Travel, .int .i64 v41.s.Retract, .int .i64 v41.s.MinTime, .int .i64 v41.s.MinFeed, .int .i64 v41.s.Nozzle, .int .i64 v41.s.Bed, .int .i64 v41.nozzle.X, .int .i64 v41.nozzle.Y]))) := by
      intro H q0 q1
      simp [*, q0, q1]
    cases h
    refine ⟨?_, by first | exact ⟨_, rfl⟩ | exact ⟨_, by assumption⟩⟩
    refine j7 (lf := lf66) rfl rfl rfl ?_
    simp only [lf66, lc66]
    rcases tof (ieq p0.nozzle.X p1.X) with a46 | a46 <;> rcases tof (ieq p0.nozzle.Y p1.Y) with a47 | a47 <;> rcases tof v9.2 with a48 | a48 <;> rcases tof (ine p0.s.Retract 0) with a49 | a49 <;> (try (simp [a46, a47, a48, a49] at c1 c10 c17; done)) <;> (try simp only [a46, a47, a48, a49] at f4 f42) <;> simp [*, -Qr, Qm (e := J2) (el := 40) (fz := false)]
  ·obtain ⟨v52, h51, h⟩ := oS h
   have f50 := Ji3 (e := Je) h51
   rcases ifC h with ⟨c53, h⟩ | ⟨c53, h⟩
   ·obtain ⟨v55, h54, h⟩ := oS h
    obtain ⟨f56, ⟨l58, e57⟩⟩ := J1 rfl h54
    simp only [e57] at f56
    try simp only [e57] at h
    try simp only [J5, K4, Jj, Jk, Jq, Jv, Jt, Jx, Jw, Ju] at f56
    try simp only [Jj, Jk, Jq, Jv, Jt, Jx, Jw, Ju] at f56
    have f59 : ∀ H : Heap, H 0 = some (.box 0 [.arr 1000000 0 0 (FS.lst le000).l.length, encF Jg p0.r.Rows, .int .i64 p0.s.Pitch, .int .i64 p0.s.Height, .int .i64 p0.s.Walls, .int .i64 p0.s.Top, .int .i64 p0.s.Bottom, .int .i64 p0.s.Pattern, .int .i64 p0.s.Spacing, .bool p0.s.Support, .int .i64 p0.s.Reach, .int .i64 p0.s.Gap, .int .i64 p0.s.Brim, .int .i64 p0.s.Skirt, .int .i64 p0.s.Drop, .int .i64 p0.s.Feed, .int .i64 p0.s.Travel, .int .i64 p0.s.Retract, .int .i64 p0.s.MinTime, .int .i64 p0.s.MinFeed, .int .i64 p0.s.Nozzle, .int .i64 p0.s.Bed, .int .i64 p0.nozzle.X, .int .i64 p0.nozzle.Y]) → H 1000000 = some (.arr 0 6 40 (Jp J2 (FS.lst le000).l) false) → Jak (FC env) 24 H [.ptr 0 0 0, .agg [.int .i64 4, .int .i64 0, .int .i64 0, .int .i64 0, .int .i64 0, .nils]] = some (.tup [], upd (upd H 1000000 (some (.arr 1 6 40 (Jp J2 (FS.lst l58).l) false))) 0 (some (.box 0 [.arr 1000000 1 0 (FS.lst l58).l.length, encF Jg v55.r.Rows, .int .i64 v55.s.Pitch, .int .i64 v55.s.Height, .int .i64 v55.s.Walls, .int .i64 v55.s.Top, .int .i64 v55.s.Bottom, .int .i64 v55.s.Pattern, .int .i64 v55.s.Spacing, .bool v55.s.Support, .int .i64 v55.s.Reach, .int .i64 v55.s.Gap, .int .i64 v55.s.Brim, .int .i64 v55.s.Skirt, .int .i64 v55.s.Drop, .int .i64 v55.s.Feed, .int .i64 v55.s.Travel, .int .i64 v55.s.Retract, .int .i64 v55.s.MinTime, .int .i64 v55.s.MinFeed, .int .i64 v55.s.Nozzle, .int .i64 v55.s.Bed, .int .i64 v55.nozzle.X, .int .i64 v55.nozzle.Y]))) := by
      intro H q0 q1
      simp [*, q0, q1]
    obtain ⟨v61, h60, h⟩ := oS h
    obtain ⟨f62, ⟨l64, e63⟩⟩ := J1 rfl h60
    simp only [e63] at f62
    try simp only [e63] at h
    try simp only [J5, K4, Jj, Jk, Jq, Jv, Jt, Jx, Jw, Ju] at f62
    try simp only [Jj, Jk, Jq, Jv, Jt, Jx, Jw, Ju] at f62
    have f65 : ∀ H : Heap, H 0 = some (.box 0 [.arr 1000000 1 0 (FS.lst l58).l.length, encF Jg v55.r.Rows, .int .i64 v55.s.Pitch, .int .i64 v55.s.Height, .int .i64 v55.s.Walls, .int .i64 v55.s.Top, .int .i64 v55.s.Bottom, .int .i64 v55.s.Pattern, .int .i64 v55.s.Spacing, .bool v55.s.Support, .int .i64 v55.s.Reach, .int .i64 v55.s.Gap, .int .i64 v55.s.Brim, .int .i64 v55.s.Skirt, .int .i64 v55.s.Drop, .int .i64 v55.s.Feed, .int .i64 v55.s.Travel, .int .i64 v55.s.Retract, .int .i64 v55.s.MinTime, .int .i64 v55.s.MinFeed, .int .i64 v55.s.Nozzle, .int .i64 v55.s.Bed, .int .i64 v55.nozzle.X, .int .i64 v55.nozzle.Y]) → H 1000000 = some (.arr 1 6 40 (Jp J2 (FS.lst l58).l) false) → Jak (FC env) 24 H [.ptr 0 0 0, .agg [.int .i64 2, .int .i64 0, .int .i64 0, .int .i64 0, .int .i64 v6, encF Je v52]] = some (.tup [], upd (upd H 1000000 (some (.arr 2 6 40 (Jp J2 (FS.lst l64).l) false))) 0 (some (.box 0 [.arr 1000000 2 0 (FS.lst l64).l.length, encF Jg v61.r.Rows, .int .i64 v61.s.Pitch, .int .i64 v61.s.Height, .int .i64 v61.s.Walls, .int .i64 v61.s.Top, .int .i64 v61.s.Bottom, .int .i64 v61.s.Pattern, .int .i64 v61.s.Spacing, .bool v61.s.Support, .int .i64 v61.s.Reach, .int .i64 v61.s.Gap, .int .i64 v61.s.Brim, .int .i64 v61.s.Skirt, .int .i64 v61.s.Drop, .int .i64 v61.s.Feed, .int .i64 v61.s.Travel, .int .i64 v61.s.Retract, .int .i64 v61.s.MinTime, .int .i64 v61.s.MinFeed, .int .i64 v61.s.Nozzle, .int .i64 v61.s.Bed, .int .i64 v61.nozzle.X, .int .i64 v61.nozzle.Y]))) := by
      intro H q0 q1
      simp [*, q0, q1]
    obtain ⟨v67, h66, h⟩ := oS h
    obtain ⟨f68, ⟨l70, e69⟩⟩ := J1 rfl h66
    simp only [e69] at f68
    try simp only [e69] at h
    try simp only [J5, K4, Jj, Jk, Jq, Jv, Jt, Jx, Jw, Ju] at f68
    try simp only [Jj, Jk, Jq, Jv, Jt, Jx, Jw, Ju] at f68
    have f71 : ∀ H : Heap, H 0 = some (.box 0 [.arr 1000000 2 0 (FS.lst l64).l.length, encF Jg v61.r.Rows, .int .i64 v61.s.Pitch, .int .i64 v61.s.Height, .int .i64 v61.s.Walls, .int .i64 v61.s.Top, .int .i64 v61.s.Bottom, .int .i64 v61.s.Pattern, .int .i64 v61.s.Spacing, .bool v61.s.Support, .int .i64 v61.s.Reach, .int .i64 v61.s.Gap, .int .i64 v61.s.Brim, .int .i64 v61.s.Skirt, .int .i64 v61.s.Drop, .int .i64 v61.s.Feed, .int .i64 v61.s.Travel, .int .i64 v61.s.Retract, .int .i64 v61.s.MinTime, .int .i64 v61.s.MinFeed, .int .i64 v61.s.Nozzle, .int .i64 v61.s.Bed, .int .i64 v61.nozzle.X, .int .i64 v61.nozzle.Y]) → H 1000000 = some (.arr 2 6 40 (Jp J2 (FS.lst l64).l) false) → Jak (FC env) 24 H [.ptr 0 0 0, .agg [.int .i64 5, .int .i64 0, .int .i64 0, .int .i64 0, .int .i64 0, .nils]] = some (.tup [], upd (upd H 1000000 (some (.arr 3 6 40 (Jp J2 (FS.lst l70).l) false))) 0 (some (.box 0 [.arr 1000000 3 0 (FS.lst l70).l.length, encF Jg v67.r.Rows, .int .i64 v67.s.Pitch, .int .i64 v67.s.Height, .int .i64 v67.s.Walls, .int .i64 v67.s.Top, .int .i64 v67.s.Bottom, .int .i64 v67.s.Pattern, .int .i64 v67.s.Spacing, .bool v67.s.Support, .int .i64 v67.s.Reach, .int .i64 v67.s.Gap, .int .i64 v67.s.Brim, .int .i64 v67.s.Skirt, .int .i64 v67.s.Drop, .int .i64 v67.s.Feed, .int .i64 v67.s.Travel, .int .i64 v67.s.Retract, .int .i64 v67.s.MinTime, .int .i64 v67.s.MinFeed, .int .i64 v67.s.Nozzle, .int .i64 v67.s.Bed, .int .i64 v67.nozzle.X, .int .i64 v67.nozzle.Y]))) := by
      intro H q0 q1
      simp [*, q0, q1]
    cases h
    refine ⟨?_, by first | exact ⟨_, rfl⟩ | exact ⟨_, by assumption⟩⟩
    refine j7 (lf := lf66) rfl rfl rfl ?_
    simp only [lf66, lc66]
    rcases tof (ieq p0.nozzle.X p1.X) with a72 | a72 <;> rcases tof (ieq p0.nozzle.Y p1.Y) with a73 | a73 <;> rcases tof v9.2 with a74 | a74 <;> (try (simp [a72, a73, a74] at c1 c53 c10; done)) <;> (try simp only [a72, a73, a74] at f4 f56 f62 f68) <;> simp [*, -Qr, Qm (e := J2) (el := 40) (fz := false)]
   ·obtain ⟨v76, h75, h⟩ := oS h
    obtain ⟨f77, ⟨l79, e78⟩⟩ := J1 rfl h75
    simp only [e78] at f77
    try simp only [e78] at h
    try simp only [J5, K4, Jj, Jk, Jq, Jv, Jt, Jx, Jw, Ju] at f77
    try simp only [Jj, Jk, Jq, Jv, Jt, Jx, Jw, Ju] at f77
    have f80 : ∀ H : Heap, H 0 = some (.box 0 [.arr 1000000 0 0 (FS.lst le000).l.length, encF Jg p0.r.Rows, .int .i64 p0.s.Pitch, .int .i64 p0.s.Height, .int .i64 p0.s.Walls, .int .i64 p0.s.Top, .int .i64 p0.s.Bottom, .int .i64 p0.s.Pattern, .int .i64 p0.s.Spacing, .bool p0.s.Support, .int .i64 p0.s.Reach, .int .i64 p0.s.Gap, .int .i64 p0.s.Brim, .int .i64 p0.s.Skirt, .int .i64 p0.s.Drop, .int .i64 p0.s.Feed, .int .i64 p0.s.Travel, .int .i64 p0.s.Retract, .int .i64 p0.s.MinTime, .int .i64 p0.s.MinFeed, .int .i64 p0.s.Nozzle, .int .i64 p0.s.Bed, .int .i64 p0.nozzle.X, .int .i64 p0.nozzle.Y]) → H 1000000 = some (.arr 0 6 40 (Jp J2 (FS.lst le000).l) false) → Jak (FC env) 24 H [.ptr 0 0 0, .agg [.int .i64 2, .int .i64 0, .int .i64 0, .int .i64 0, .int .i64 v6, encF Je v52]] = some (.tup [], upd (upd H 1000000 (some (.arr 1 6 40 (Jp J2 (FS.lst l79).l) false))) 0 (some (.box 0 [.arr 1000000 1 0 (FS.lst l79).l.length, encF Jg v76.r.Rows, .int .i64 v76.s.Pitch, .int .i64 v76.s.Height, .int .i64 v76.s.Walls, .int .i64 v76.s.Top, .int .i64 v76.s.Bottom, .int .i64 v76.s.Pattern, .int .i64 v76.s.Spacing, .bool v76.s.Support, .int .i64 v76.s.Reach, .int .i64 v76.s.Gap, .int .i64 v76.s.Brim, .int .i64 v76.s.Skirt, .int .i64 v76.s.Drop, .int .i64 v76.s.Feed, .int .i64 v76.s.Travel, .int .i64 v76.s.Retract, .int .i64 v76.s.MinTime, .int .i64 v76.s.MinFeed, .int .i64 v76.s.Nozzle, .int .i64 v76.s.Bed, .int .i64 v76.nozzle.X, .int .i64 v76.nozzle.Y]))) := by
      intro H q0 q1
      simp [*, q0, q1]
    cases h
    refine ⟨?_, by first | exact ⟨_, rfl⟩ | exact ⟨_, by assumption⟩⟩
    refine j7 (lf := lf66) rfl rfl rfl ?_
    simp only [lf66, lc66]
    rcases tof (ieq p0.nozzle.X p1.X) with a81 | a81 <;> rcases tof (ieq p0.nozzle.Y p1.Y) with a82 | a82 <;> rcases tof v9.2 with a83 | a83 <;> (try (simp [a81, a82, a83] at c1 c10; done)) <;> (try simp only [a81, a82, a83] at f4 f77) <;> simp [*, -Qr, Qm (e := J2) (el := 40) (fz := false)]
end Go.Proofs.Ytemehoioeoohmaa
