/- Typed functions of this seat, each with the proof that the code computes it; by program (tg3.py). -/
import Derived.Test.YtemehoioeoohmaaGreatCode
import Derived.Test.YtemehoioeoohmaaGreatVu
import Derived.KernelRfl
namespace Go.Proofs.YtemehoioeoohmaaGreat
open Go Go.Vv Go.Proofs
open AV renaming int → I
open Go.IntKind renaming i64 → L
open Int renaming reduceToNat → Aa
open Nat renaming reduceMul → Ab, one_mul → Ac, mul_one → Ad
set_option linter.unusedSimpArgs false
set_option linter.unusedVariables false
set_option maxRecDepth 100000
set_option maxHeartbeats 4000000
variable (Γ : Env) (ps : List Nat) (σ : St)
def Jcg (x : Int) : List AV := [I L x]
instance : EncOK 1 Jcg := ⟨fun _ => rfl, fun _ => by simp [Jcg]⟩
attribute [simp] Jcg
structure Ja where
  X : Int
  Y : Int
def Jf (x : Ja) : List AV := [I L x.X, I L x.Y]
instance : EncOK 2 Jf := ⟨fun _ => rfl, fun _ => by simp [Jf]⟩
attribute [simp] Jf
def J5f (x : Bool) : List AV := [.bool x]
instance : EncOK 1 J5f := ⟨fun _ => rfl, fun _ => by simp [J5f]⟩
attribute [simp] J5f
def Jj8 (x : (FS Ja)) : List AV := [encF Jf x]
instance : EncOK 1 Jj8 := ⟨fun _ => rfl, fun _ => by simp [Jj8]⟩
attribute [simp] Jj8
structure Jb where
  Role : Int
  Closed : Bool
  Cells : (FS Ja)
def Jc (x : Jb) : List AV := [I L x.Role, .bool x.Closed, encF Jf x.Cells]
instance : EncOK 3 Jc := ⟨fun _ => rfl, fun _ => by simp [Jc]⟩
attribute [simp] Jc
structure Kk where
  From : Int
  To : Int
def Xn (x : Kk) : List AV := [I L x.From, I L x.To]
instance : EncOK 2 Xn := ⟨fun _ => rfl, fun _ => by simp [Xn]⟩
attribute [simp] Xn
def Jlj (x : (FS Kk)) : List AV := [encF Xn x]
instance : EncOK 1 Jlj := ⟨fun _ => rfl, fun _ => by simp [Jlj]⟩
attribute [simp] Jlj
structure Jaf where
  Y : Int
  Runs : (FS Kk)
def Jq (x : Jaf) : List AV := [I L x.Y, encF Xn x.Runs]
instance : EncOK 2 Jq := ⟨fun _ => rfl, fun _ => by simp [Jq]⟩
attribute [simp] Jq
def Jk0 (x : (FS Jaf)) : List AV := [encF Jq x]
instance : EncOK 1 Jk0 := ⟨fun _ => rfl, fun _ => by simp [Jk0]⟩
attribute [simp] Jk0
structure Jl where
  Rows : (FS Jaf)
def Jlg (x : Jl) : List AV := [encF Jq x.Rows]
instance : EncOK 1 Jlg := ⟨fun _ => rfl, fun _ => by simp [Jlg]⟩
attribute [simp] Jlg
def Jje (x : (FS Jb)) : List AV := [encF Jc x]
instance : EncOK 1 Jje := ⟨fun _ => rfl, fun _ => by simp [Jje]⟩
attribute [simp] Jje
structure Zk where
  Tracks : (FS Jb)
  Region : Jl
  Index : Int
  From : Ja
def Je8 (x : Zk) : List AV := [encF Jc x.Tracks, encF Jq x.Region.Rows, I L x.Index, I L x.From.X, I L x.From.Y]
instance : EncOK 5 Je8 := ⟨fun _ => rfl, fun _ => by simp [Je8]⟩
attribute [simp] Je8
structure Jy where
  Pitch : Int
  Height : Int
  Walls : Int
  Top : Int
  Bottom : Int
  Pattern : Int
  Spacing : Int
  Support : Bool
  Reach : Int
  Gap : Int
  Brim : Int
  Skirt : Int
  Drop : Int
  Feed : Int
  Travel : Int
  Retract : Int
  MinTime : Int
  MinFeed : Int
  Nozzle : Int
  Bed : Int
def Jge (x : Jy) : List AV := [I L x.Pitch, I L x.Height, I L x.Walls, I L x.Top, I L x.Bottom, I L x.Pattern, I L x.Spacing, .bool x.Support, I L x.Reach, I L x.Gap, I L x.Brim, I L x.Skirt, I L x.Drop, I L x.Feed, I L x.Travel, I L x.Retract, I L x.MinTime, I L x.MinFeed, I L x.Nozzle, I L x.Bed]
instance : EncOK 20 Jge := ⟨fun _ => rfl, fun _ => by simp [Jge]⟩
attribute [simp] Jge
structure Jj9 where
  grid : Bool
  solid : Bool
  pattern : Bool
  around : Bool
  filament : Bool
  speeds : Bool
  heat : Bool
def Jkc (x : Jj9) : List AV := [.bool x.grid, .bool x.solid, .bool x.pattern, .bool x.around, .bool x.filament, .bool x.speeds, .bool x.heat]
instance : EncOK 7 Jkc := ⟨fun _ => rfl, fun _ => by simp [Jkc]⟩
attribute [simp] Jkc
structure J1 where
  Kind : Int
  Role : Int
  Layer : Int
  Z : Int
  Speed : Int
  Cells : (FS Ja)
def Jw (x : J1) : List AV := [I L x.Kind, I L x.Role, I L x.Layer, I L x.Z, I L x.Speed, encF Jf x.Cells]
instance : EncOK 6 Jw := ⟨fun _ => rfl, fun _ => by simp [Jw]⟩
attribute [simp] Jw
def Jmd (x : (FS J1)) : List AV := [encF Jw x]
instance : EncOK 1 Jmd := ⟨fun _ => rfl, fun _ => by simp [Jmd]⟩
attribute [simp] Jmd
structure Km where
  ops : (FS J1)
def Jik (x : Km) : List AV := [encF Jw x.ops]
instance : EncOK 1 Jik := ⟨fun _ => rfl, fun _ => by simp [Jik]⟩
attribute [simp] Jik
structure Jo where
  list : Km
  r : Jl
  s : Jy
  nozzle : Ja
def Jfz (x : Jo) : List AV := [encF Jw x.list.ops, encF Jq x.r.Rows, I L x.s.Pitch, I L x.s.Height, I L x.s.Walls, I L x.s.Top, I L x.s.Bottom, I L x.s.Pattern, I L x.s.Spacing, .bool x.s.Support, I L x.s.Reach, I L x.s.Gap, I L x.s.Brim, I L x.s.Skirt, I L x.s.Drop, I L x.s.Feed, I L x.s.Travel, I L x.s.Retract, I L x.s.MinTime, I L x.s.MinFeed, I L x.s.Nozzle, I L x.s.Bed, I L x.nozzle.X, I L x.nozzle.Y]
instance : EncOK 24 Jfz := ⟨fun _ => rfl, fun _ => by simp [Jfz]⟩
attribute [simp] Jfz
structure A2 (α : Type) where
  a0 : α
  a1 : α
def A2.toL {α : Type} (x : A2 α) : List α := [x.a0, x.a1]
def A2.get {α : Type} (x : A2 α) (i : Int) : α := if i = 0 then x.a0 else x.a1
def A2.set {α : Type} (x : A2 α) (i : Int) (v : α) : A2 α := if i = 0 then { x with a0 := v } else { x with a1 := v }
section
variable {α : Type} {w : Nat} {e : α → List AV} [hE : EncOK w e]
include hE
end
def J8 (x : (A2 Ja)) : List AV := [I L x.a0.X, I L x.a0.Y, I L x.a1.X, I L x.a1.Y]
instance : EncOK 4 J8 := ⟨fun _ => rfl, fun _ => by simp [J8]⟩
attribute [simp] J8
def Jg0 (x : (FS (A2 Ja))) : List AV := [encF J8 x]
instance : EncOK 1 Jg0 := ⟨fun _ => rfl, fun _ => by simp [Jg0]⟩
attribute [simp] Jg0
def Jsy (x : (FS Int)) : List AV := [encF Jcg x]
instance : EncOK 1 Jsy := ⟨fun _ => rfl, fun _ => by simp [Jsy]⟩
attribute [simp] Jsy
structure X2 where
  from_ : Ja
  a : (FS (A2 Ja))
  b : (FS (A2 Ja))
  ahead : (FS Int)
  aback : (FS Int)
def Jk7 (x : X2) : List AV := [I L x.from_.X, I L x.from_.Y, encF J8 x.a, encF J8 x.b, encF Jcg x.ahead, encF Jcg x.aback]
instance : EncOK 6 Jk7 := ⟨fun _ => rfl, fun _ => by simp [Jk7]⟩
attribute [simp] Jk7
def jk (x : Ja) : AV := .agg [I L x.X, I L x.Y]
def Kw (a b : Ja) : Bool := (band (ieq a.X b.X) (band (ieq a.Y b.Y) true))
instance : KeyOK true [false, false] jk Kw := ⟨fun a b => by simp [jk, Kw], fun a => by simp [jk, AV.noNm, Jtj]⟩
def j5 (x : Ja) : AV := .agg [I L x.X, I L x.Y]
instance : ValOK j5 := ⟨fun v => by simp [j5, AV.noNm, Jtj]⟩
structure A4 (α : Type) where
  a0 : α
  a1 : α
  a2 : α
  a3 : α
def A4.toL {α : Type} (x : A4 α) : List α := [x.a0, x.a1, x.a2, x.a3]
def A4.get {α : Type} (x : A4 α) (i : Int) : α := if i = 0 then x.a0 else if i = 1 then x.a1 else if i = 2 then x.a2 else x.a3
def A4.set {α : Type} (x : A4 α) (i : Int) (v : α) : A4 α := if i = 0 then { x with a0 := v } else if i = 1 then { x with a1 := v } else if i = 2 then { x with a2 := v } else { x with a3 := v }
section
variable {α : Type} {w : Nat} {e : α → List AV} [hE : EncOK w e]
include hE
theorem pack_A4 (x : A4 α) {i : Int} (hi : inB i 4 = true) (P Q : List AV) (hw : 0 < w) (ag : Bool) : pack ag (P ++ (Jn e x.toL ++ Q)) (aOff P.length w i) w = pack ag (e (x.get i)) 0 w :=
  pack_mid (e := e) (l := x.toL) (by
    have hc : i = 0 ∨ i = 1 ∨ i = 2 ∨ i = 3 := by rw [Jvx] at hi; omega
    rcases hc with rfl | rfl | rfl | rfl <;> rfl) P Q hw ag
end
structure J2 where
  cell : Ja
  before : Int
def J7 (x : J2) : List AV := [I L x.cell.X, I L x.cell.Y, I L x.before]
instance : EncOK 3 J7 := ⟨fun _ => rfl, fun _ => by simp [J7]⟩
attribute [simp] J7
attribute [simp] c9_0 c9_1 c9_2 c9_3 c9_4 c9_5 c9_6 c9_8
theorem c9_L0_u : EC Γ ps 0 c9_L0 σ = EC Γ ps 0 (.seq (.seq (.reg false c9_2) (.cond (.t 8) .skip (.seq (.trim []) (.exit 0)))) (.seq (.blk 1 (.seq (.reg false c9_3) (.seq (.reg false c9_4) (.cond (.t 52) (.seq (.reg false c9_5) (.seq (.trim [2]) .ret)) .skip)))) (.reg false c9_6))) σ := rfl
attribute [simp ↓] c9_L0_u
def zw (k0 : (FS Ja)) (s : Int) : Option (LR Int (Bool ⊕ Unit)) := match s with
 | s0 => (if (ilt s0 (flen k0)) = true then (J6 (fget k0 s0) fun v4 => (if (bor (bor (bor (band (igt v4.X 60) (ilt v4.X 4096)) (band (igt v4.Y 60) (ilt v4.Y 4096))) (band (ilt v4.X (-60)) (ige v4.X (-4096)))) (band (ilt v4.Y (-60)) (ige v4.Y (-4096)))) = true then some (.dn (.inl false))
 else some (.nx (iadd L s0 1))))
 else some (.dn (.inr ())))
def X9 (k0 : (FS Ja)) (s : Int) : St := match s with
 | s0 => ⟨fr [(0, encF Jf k0), (3, I L s0)], hl []⟩
def Y6 (k0 : (FS Ja)) (x : (Bool ⊕ Unit)) : LE × St := match x with
 | .inl x => (.ret, ⟨fr [(2, .bool x)], hl []⟩)
 | .inr x => (.exit 0, ⟨fr [], hl []⟩)
theorem Jir {k0} {s} {r} (h : Kn (zw k0) bigN s = some r) : LK env [] 0 [0, 3] c9_L0 (some (X9 k0 s)) = some (Y6 k0 r) := Kh (st := X9 k0) (out := Y6 k0) (by
 clear h s r
 rintro s0 x h
 simp only [zw] at h
 rcases ifC h with ⟨c1, h⟩ | ⟨c1, h⟩
 ·obtain ⟨v4, h3, h⟩ := oS h
  have f2 := Kf (e := Jf) h3
  rcases ifC h with ⟨c5, h⟩ | ⟨c5, h⟩
  ·cases h
   simp only [X9, Y6]
   rw [Jm]
   rcases tof (igt v4.X 60) with a6 | a6
   ·rcases tof (ilt v4.X 4096) with a7 | a7
    ·simp [*]
    ·rcases tof (igt v4.Y 60) with a8 | a8
     ·rcases tof (ilt v4.Y 4096) with a9 | a9
      ·simp [*]
      ·rcases tof (ilt v4.X (-60)) with a10 | a10
       ·rcases tof (ige v4.X (-4096)) with a11 | a11
        ·simp [*]
        ·rcases tof (ilt v4.Y (-60)) with a12 | a12
         ·rcases tof (ige v4.Y (-4096)) with a13 | a13
          ·simp [*]
          ·simp [c1, a6, a7, a8, a9, a10, a11, a12, a13] at c5
         ·simp [c1, a6, a7, a8, a9, a10, a11, a12] at c5
       ·rcases tof (ilt v4.Y (-60)) with a14 | a14
        ·rcases tof (ige v4.Y (-4096)) with a15 | a15
         ·simp [*]
         ·simp [c1, a6, a7, a8, a9, a10, a14, a15] at c5
        ·simp [c1, a6, a7, a8, a9, a10, a14] at c5
     ·rcases tof (ilt v4.X (-60)) with a16 | a16
      ·rcases tof (ige v4.X (-4096)) with a17 | a17
       ·simp [*]
       ·rcases tof (ilt v4.Y (-60)) with a18 | a18
        ·rcases tof (ige v4.Y (-4096)) with a19 | a19
         ·simp [*]
         ·simp [c1, a6, a7, a8, a16, a17, a18, a19] at c5
        ·simp [c1, a6, a7, a8, a16, a17, a18] at c5
      ·rcases tof (ilt v4.Y (-60)) with a20 | a20
       ·rcases tof (ige v4.Y (-4096)) with a21 | a21
        ·simp [*]
        ·simp [c1, a6, a7, a8, a16, a20, a21] at c5
       ·simp [c1, a6, a7, a8, a16, a20] at c5
   ·rcases tof (igt v4.Y 60) with a22 | a22
    ·rcases tof (ilt v4.Y 4096) with a23 | a23
     ·simp [*]
     ·rcases tof (ilt v4.X (-60)) with a24 | a24
      ·rcases tof (ige v4.X (-4096)) with a25 | a25
       ·simp [*]
       ·rcases tof (ilt v4.Y (-60)) with a26 | a26
        ·rcases tof (ige v4.Y (-4096)) with a27 | a27
         ·simp [*]
         ·simp [c1, a6, a22, a23, a24, a25, a26, a27] at c5
        ·simp [c1, a6, a22, a23, a24, a25, a26] at c5
      ·rcases tof (ilt v4.Y (-60)) with a28 | a28
       ·rcases tof (ige v4.Y (-4096)) with a29 | a29
        ·simp [*]
        ·simp [c1, a6, a22, a23, a24, a28, a29] at c5
       ·simp [c1, a6, a22, a23, a24, a28] at c5
    ·rcases tof (ilt v4.X (-60)) with a30 | a30
     ·rcases tof (ige v4.X (-4096)) with a31 | a31
      ·simp [*]
      ·rcases tof (ilt v4.Y (-60)) with a32 | a32
       ·rcases tof (ige v4.Y (-4096)) with a33 | a33
        ·simp [*]
        ·simp [c1, a6, a22, a30, a31, a32, a33] at c5
       ·simp [c1, a6, a22, a30, a31, a32] at c5
     ·rcases tof (ilt v4.Y (-60)) with a34 | a34
      ·rcases tof (ige v4.Y (-4096)) with a35 | a35
       ·simp [*]
       ·simp [c1, a6, a22, a30, a34, a35] at c5
      ·simp [c1, a6, a22, a30, a34] at c5
  ·cases h
   simp only [X9]
   rw [Jm]
   rcases tof (igt v4.X 60) with a36 | a36
   ·rcases tof (ilt v4.X 4096) with a37 | a37
    ·simp [c1, a36, a37] at c5
    ·rcases tof (igt v4.Y 60) with a38 | a38
     ·rcases tof (ilt v4.Y 4096) with a39 | a39
      ·simp [c1, a36, a37, a38, a39] at c5
      ·rcases tof (ilt v4.X (-60)) with a40 | a40
       ·rcases tof (ige v4.X (-4096)) with a41 | a41
        ·simp [c1, a36, a37, a38, a39, a40, a41] at c5
        ·rcases tof (ilt v4.Y (-60)) with a42 | a42
         ·rcases tof (ige v4.Y (-4096)) with a43 | a43
          ·simp [c1, a36, a37, a38, a39, a40, a41, a42, a43] at c5
          ·simp [*]
         ·simp [*]
       ·rcases tof (ilt v4.Y (-60)) with a44 | a44
        ·rcases tof (ige v4.Y (-4096)) with a45 | a45
         ·simp [c1, a36, a37, a38, a39, a40, a44, a45] at c5
         ·simp [*]
        ·simp [*]
     ·rcases tof (ilt v4.X (-60)) with a46 | a46
      ·rcases tof (ige v4.X (-4096)) with a47 | a47
       ·simp [c1, a36, a37, a38, a46, a47] at c5
       ·rcases tof (ilt v4.Y (-60)) with a48 | a48
        ·rcases tof (ige v4.Y (-4096)) with a49 | a49
         ·simp [c1, a36, a37, a38, a46, a47, a48, a49] at c5
         ·simp [*]
        ·simp [*]
      ·rcases tof (ilt v4.Y (-60)) with a50 | a50
       ·rcases tof (ige v4.Y (-4096)) with a51 | a51
        ·simp [c1, a36, a37, a38, a46, a50, a51] at c5
        ·simp [*]
       ·simp [*]
   ·rcases tof (igt v4.Y 60) with a52 | a52
    ·rcases tof (ilt v4.Y 4096) with a53 | a53
     ·simp [c1, a36, a52, a53] at c5
     ·rcases tof (ilt v4.X (-60)) with a54 | a54
      ·rcases tof (ige v4.X (-4096)) with a55 | a55
       ·simp [c1, a36, a52, a53, a54, a55] at c5
       ·rcases tof (ilt v4.Y (-60)) with a56 | a56
        ·rcases tof (ige v4.Y (-4096)) with a57 | a57
         ·simp [c1, a36, a52, a53, a54, a55, a56, a57] at c5
         ·simp [*]
        ·simp [*]
      ·rcases tof (ilt v4.Y (-60)) with a58 | a58
       ·rcases tof (ige v4.Y (-4096)) with a59 | a59
        ·simp [c1, a36, a52, a53, a54, a58, a59] at c5
        ·simp [*]
       ·simp [*]
    ·rcases tof (ilt v4.X (-60)) with a60 | a60
     ·rcases tof (ige v4.X (-4096)) with a61 | a61
      ·simp [c1, a36, a52, a60, a61] at c5
      ·rcases tof (ilt v4.Y (-60)) with a62 | a62
       ·rcases tof (ige v4.Y (-4096)) with a63 | a63
        ·simp [c1, a36, a52, a60, a61, a62, a63] at c5
        ·simp [*]
       ·simp [*]
     ·rcases tof (ilt v4.Y (-60)) with a64 | a64
      ·rcases tof (ige v4.Y (-4096)) with a65 | a65
       ·simp [c1, a36, a52, a60, a64, a65] at c5
       ·simp [*]
      ·simp [*]
 ·cases h
  simp only [X9, Y6]
  rw [Jm]
  simp [*]) bigN s r h
def Jbp (p0 : (FS Ja)) : Option Bool := (J6 (Kn (zw p0) bigN 0) fun v7 => (match v7 with
 | .inl v7x => some v7x
 | .inr v7x => some true))
theorem Jf4 {p0} {r} (h : Jbp p0 = some r) : FC env 9 [encF Jf p0] none = some (.bool r, fun _ => none) := by
 unfold Jbp at h
 obtain ⟨v67, h66, h⟩ := oS h
 have f68 := Jir h66
 cases v67 with
 | inl v67x =>
  try simp only at h
  simp only [X9, Y6, J5] at f68
  try simp only [Jg, Jh, Jk, Jr, Ju, Jt, Js, Jv] at f68
  cases h
  refine J0 (lf := lf9) rfl rfl rfl ?_
  simp only [lf9, lc9]
  simp [*]
 | inr v67x =>
  try simp only at h
  simp only [X9, Y6, J5] at f68
  try simp only [Jg, Jh, Jk, Jr, Ju, Jt, Js, Jv] at f68
  cases h
  refine J0 (lf := lf9) rfl rfl rfl ?_
  simp only [lf9, lc9]
  simp [*]
attribute [simp] c45_0 c45_1 c45_2 c45_3 c45_4 c45_5 c45_7
theorem c45_L0_u : EC Γ ps 0 J1s σ = EC Γ ps 0 (.seq (.seq (.reg false c45_2) (.cond (.t 7) .skip (.seq (.trim [0]) (.exit 0)))) (.seq (.blk 1 (.seq (.reg true c45_3) (.cond (.t 54) (.seq (.reg false c45_4) (.seq (.trim [2]) .ret)) .skip))) (.reg false c45_5))) σ := rfl
attribute [simp ↓] c45_L0_u
def Ye (k0 : (FS Kk)) (s : Int) : Option (LR Int (Bool ⊕ Unit)) := match s with
 | s0 => (if (ilt s0 (flen k0)) = true then (J6 (fget k0 s0) fun v4 => (J6 (gOpt (band (bnot (bor (bor (ilt v4.From (-4096)) (ige v4.From v4.To)) (igt v4.To 4096))) (igt s0 0)) (fget k0 (isub L s0 1))) fun v11 => (if (bor (bor (bor (ilt v4.From (-4096)) (ige v4.From v4.To)) (igt v4.To 4096)) (band (igt s0 0) (ile v4.From (((v11.getD (⟨0, 0⟩ : Kk))).To)))) = true then some (.dn (.inl false))
 else some (.nx (iadd L s0 1)))))
 else some (.dn (.inr ())))
def X6 (k0 : (FS Kk)) (s : Int) : St := match s with
 | s0 => ⟨fr [(0, encF Xn k0), (3, I L s0)], hl []⟩
def Za (k0 : (FS Kk)) (x : (Bool ⊕ Unit)) : LE × St := match x with
 | .inl x => (.ret, ⟨fr [(2, .bool x)], hl []⟩)
 | .inr x => (.exit 0, ⟨fr [(0, encF Xn k0)], hl []⟩)
theorem Jin {k0} {s} {r} (h : Kn (Ye k0) bigN s = some r) : LK env [] 0 [0, 3] J1s (some (X6 k0 s)) = some (Za k0 r) := Kh (st := X6 k0) (out := Za k0) (by
 clear h s r
 rintro s0 x h
 simp only [Ye] at h
 rcases ifC h with ⟨c1, h⟩ | ⟨c1, h⟩
 ·obtain ⟨v4, h3, h⟩ := oS h
  have f2 := Kf (e := Xn) h3
  obtain ⟨v11, h10, h⟩ := oS h
  have f9 := fun (q0 : (bor (bor (ilt v4.From (-4096)) (ige v4.From v4.To)) (igt v4.To 4096)) = false) (q1 : (igt s0 0) = true) => Kf (e := Xn) (Qp (⟨0, 0⟩ : Kk) h10 (Jog (Jeb q0) q1))
  rcases ifC h with ⟨c12, h⟩ | ⟨c12, h⟩
  ·cases h
   simp only [X6, Za]
   rw [Jm]
   rcases tof (ilt v4.From (-4096)) with a13 | a13
   ·simp [*]
   ·rcases tof (ige v4.From v4.To) with a14 | a14
    ·simp [*]
    ·rcases tof (igt v4.To 4096) with a15 | a15
     ·simp [*]
     ·rcases tof (igt s0 0) with a16 | a16
      ·rcases tof (ile v4.From (((v11.getD (⟨0, 0⟩ : Kk))).To)) with a17 | a17
       ·simp [*]
       ·simp [c1, a13, a14, a15, a16, a17] at c12
      ·simp [c1, a13, a14, a15, a16] at c12
  ·cases h
   simp only [X6]
   rw [Jm]
   rcases tof (ilt v4.From (-4096)) with a18 | a18
   ·simp [c1, a18] at c12
   ·rcases tof (ige v4.From v4.To) with a19 | a19
    ·simp [c1, a18, a19] at c12
    ·rcases tof (igt v4.To 4096) with a20 | a20
     ·simp [c1, a18, a19, a20] at c12
     ·rcases tof (igt s0 0) with a21 | a21
      ·rcases tof (ile v4.From (((v11.getD (⟨0, 0⟩ : Kk))).To)) with a22 | a22
       ·simp [c1, a18, a19, a20, a21, a22] at c12
       ·simp [*]
      ·simp [*]
 ·cases h
  simp only [X6, Za]
  rw [Jm]
  simp [*]) bigN s r h
def Jbr (p0 : (FS Kk)) : Option Bool := (J6 (Kn (Ye p0) bigN 0) fun v14 => (match v14 with
 | .inl v14x => some v14x
 | .inr v14x => some (igt (flen p0) 0)))
theorem Jkd {p0} {r} (h : Jbr p0 = some r) : FC env 45 [encF Xn p0] none = some (.bool r, fun _ => none) := by
 unfold Jbr at h
 obtain ⟨v24, h23, h⟩ := oS h
 have f25 := Jin h23
 cases v24 with
 | inl v24x =>
  try simp only at h
  simp only [X6, Za, J5] at f25
  try simp only [Jg, Jh, Jk, Jr, Ju, Jt, Js, Jv] at f25
  cases h
  refine J0 (lf := lf45) rfl rfl rfl ?_
  simp only [lf45, lc45]
  simp [*]
 | inr v24x =>
  try simp only at h
  simp only [X6, Za, J5] at f25
  try simp only [Jg, Jh, Jk, Jr, Ju, Jt, Js, Jv] at f25
  cases h
  refine J0 (lf := lf45) rfl rfl rfl ?_
  simp only [lf45, lc45]
  simp [*]
attribute [simp] c22_0 c22_1 c22_2 c22_3 c22_4 c22_5 c22_6 c22_8
theorem c22_L0_u : EC Γ ps 0 J3v σ = EC Γ ps 0 (.seq (.seq (.reg false c22_2) (.cond (.t 9) .skip (.seq (.trim []) (.exit 0)))) (.seq (.blk 1 (.seq (.reg false c22_3) (.seq (.reg false c22_4) (.cond (.t 48) (.seq (.reg false c22_5) (.seq (.trim [2]) .ret)) .skip)))) (.reg false c22_6))) σ := rfl
attribute [simp ↓] c22_L0_u
def Q5 (k0 : Jl) (s : Int) : Option (LR Int (Bool ⊕ Unit)) := match s with
 | s0 => (if (ilt s0 (flen k0.Rows)) = true then (J6 (fget k0.Rows s0) fun v4 => (J6 (gOpt (band (bnot (bor (ilt v4.Y (-4096)) (ige v4.Y 4096))) (igt s0 0)) (fget k0.Rows (isub L s0 1))) fun v7 => (J6 (gOpt (bnot (bor (bor (ilt v4.Y (-4096)) (ige v4.Y 4096)) (band (igt s0 0) (ile v4.Y (((v7.getD (⟨0, (FS.nil : (FS Kk))⟩ : Jaf))).Y))))) (Jbr v4.Runs)) fun v11 => (if (bor (bor (bor (ilt v4.Y (-4096)) (ige v4.Y 4096)) (band (igt s0 0) (ile v4.Y (((v7.getD (⟨0, (FS.nil : (FS Kk))⟩ : Jaf))).Y)))) (bnot (v11.getD false))) = true then some (.dn (.inl false))
 else some (.nx (iadd L s0 1))))))
 else some (.dn (.inr ())))
def Xr (k0 : Jl) (s : Int) : St := match s with
 | s0 => ⟨fr [(1, .ptr 1 0 0), (3, I L s0)], hl [(1, .box 0 [encF Jq k0.Rows])]⟩
def Yt (k0 : Jl) (x : (Bool ⊕ Unit)) : LE × St := match x with
 | .inl x => (.ret, ⟨fr [(2, .bool x)], hl []⟩)
 | .inr x => (.exit 0, ⟨fr [], hl []⟩)
theorem Jif {k0} {s} {r} (h : Kn (Q5 k0) bigN s = some r) : LK env [] 0 [1, 3] J3v (some (Xr k0 s)) = some (Yt k0 r) := Kh (st := Xr k0) (out := Yt k0) (by
 clear h s r
 rintro s0 x h
 simp only [Q5] at h
 rcases ifC h with ⟨c1, h⟩ | ⟨c1, h⟩
 ·obtain ⟨v4, h3, h⟩ := oS h
  have f2 := Kf (e := Jq) h3
  obtain ⟨v7, h6, h⟩ := oS h
  have f5 := fun (q0 : (bor (ilt v4.Y (-4096)) (ige v4.Y 4096)) = false) (q1 : (igt s0 0) = true) => Kf (e := Jq) (Qp (⟨0, (FS.nil : (FS Kk))⟩ : Jaf) h6 (Jog (Jeb q0) q1))
  obtain ⟨v11, h10, h⟩ := oS h
  have f9 := fun (q0 : (bor (bor (ilt v4.Y (-4096)) (ige v4.Y 4096)) (band (igt s0 0) (ile v4.Y (((v7.getD (⟨0, (FS.nil : (FS Kk))⟩ : Jaf))).Y)))) = false) => Jkd (Qp false h10 (Jeb q0))
  rcases ifC h with ⟨c12, h⟩ | ⟨c12, h⟩
  ·cases h
   simp only [Xr, Yt]
   rw [Jm]
   rcases tof (ilt v4.Y (-4096)) with a13 | a13
   ·simp [*]
   ·rcases tof (ige v4.Y 4096) with a14 | a14
    ·simp [*]
    ·rcases tof (igt s0 0) with a15 | a15
     ·rcases tof (ile v4.Y (((v7.getD (⟨0, (FS.nil : (FS Kk))⟩ : Jaf))).Y)) with a16 | a16
      ·simp [*]
      ·rcases tof (v11.getD false) with a17 | a17
       ·simp [c1, a13, a14, a15, a16, a17] at c12
       ·simp [*]
     ·rcases tof (v11.getD false) with a18 | a18
      ·simp [c1, a13, a14, a15, a18] at c12
      ·simp [*]
  ·cases h
   simp only [Xr]
   rw [Jm]
   rcases tof (ilt v4.Y (-4096)) with a19 | a19
   ·simp [c1, a19] at c12
   ·rcases tof (ige v4.Y 4096) with a20 | a20
    ·simp [c1, a19, a20] at c12
    ·rcases tof (igt s0 0) with a21 | a21
     ·rcases tof (ile v4.Y (((v7.getD (⟨0, (FS.nil : (FS Kk))⟩ : Jaf))).Y)) with a22 | a22
      ·simp [c1, a19, a20, a21, a22] at c12
      ·rcases tof (v11.getD false) with a23 | a23
       ·simp [*]
       ·simp [c1, a19, a20, a21, a22, a23] at c12
     ·rcases tof (v11.getD false) with a24 | a24
      ·simp [*]
      ·simp [c1, a19, a20, a21, a24] at c12
 ·cases h
  simp only [Xr, Yt]
  rw [Jm]
  simp [*]) bigN s r h
def Zm (p0 : Jl) : Option Bool := (J6 (Kn (Q5 p0) bigN 0) fun v14 => (match v14 with
 | .inl v14x => some v14x
 | .inr v14x => some true))
theorem Jds {p0} {r} (h : Zm p0 = some r) : FC env 22 [.agg [encF Jq p0.Rows]] none = some (.bool r, fun _ => none) := by
 unfold Zm at h
 obtain ⟨v26, h25, h⟩ := oS h
 have f27 := Jif h25
 cases v26 with
 | inl v26x =>
  try simp only at h
  simp only [Xr, Yt, J5] at f27
  try simp only [Jg, Jh, Jk, Jr, Ju, Jt, Js, Jv] at f27
  cases h
  refine J0 (lf := lf22) rfl rfl rfl ?_
  simp only [lf22, lc22]
  simp [*]
 | inr v26x =>
  try simp only at h
  simp only [Xr, Yt, J5] at f27
  try simp only [Jg, Jh, Jk, Jr, Ju, Jt, Js, Jv] at f27
  cases h
  refine J0 (lf := lf22) rfl rfl rfl ?_
  simp only [lf22, lc22]
  simp [*]
attribute [simp] c10_0 c10_1 c10_2 c10_3 c10_4 c10_5 c10_6 c10_7 c10_8 c10_9 J8e c10_13
theorem c10_L0_u : EC Γ ps 0 Jxr σ = EC Γ ps 0 (.seq (.seq (.reg false c10_7) (.cond (.t 25) .skip (.seq (.trim [1, 3, 4]) (.exit 2)))) (.seq (.blk 3 (.reg true c10_8)) (.reg false c10_9))) σ := rfl
theorem c10_L1_u : EC Γ ps 0 J6o σ = EC Γ ps 0 (.seq (.seq (.reg false c10_5) (.cond (.t 14) .skip (.seq (.trim [3]) (.exit 0)))) (.seq (.blk 1 (.seq (.reg false c10_6) (.blk 2 (.loop [1, 3, 4, 5] Jxr)))) (.reg false J8e))) σ := rfl
attribute [simp ↓] c10_L0_u c10_L1_u
def j9 (k0 : Jl) (k1 : Int) (s : (Int × Int)) : Option (LR (Int × Int) Int) := match s with
 | (s0, s1) => (J6 (fget k0.Rows k1) fun v8 => (if (ilt s1 (flen v8.Runs)) = true then (J6 (fget v8.Runs s1) fun v13 => some (.nx ((iadd L s0 (isub L v13.To v13.From)), (iadd L s1 1))))
 else some (.dn s0)))
def zh (k0 : Jl) (k1 : Int) (s : (Int × Int)) : St := match s with
 | (s0, s1) => ⟨fr [(1, .ptr 1 0 0), (3, I L s0), (4, I L k1), (5, I L s1)], hl [(1, .box 0 [encF Jq k0.Rows])]⟩
def Jba (k0 : Jl) (k1 : Int) (x : Int) : LE × St := (.exit 2, ⟨fr [(1, .ptr 1 0 0), (3, I L x), (4, I L k1)], hl [(1, .box 0 [encF Jq k0.Rows])]⟩)
theorem Jh0 {k0} {k1} {s} {r} (h : Kn (j9 k0 k1) bigN s = some r) : LK env [] 0 [1, 3, 4, 5] Jxr (some (zh k0 k1 s)) = some (Jba k0 k1 r) := Kh (st := zh k0 k1) (out := Jba k0 k1) (by
 clear h s r
 rintro ⟨s0, s1⟩ x h
 simp only [j9] at h
 obtain ⟨v9, h8, h⟩ := oS h
 have f7 := Kf (e := Jq) h8
 rcases ifC h with ⟨c10, h⟩ | ⟨c10, h⟩
 ·obtain ⟨v14, h13, h⟩ := oS h
  have f12 := Kf (e := Xn) h13
  cases h
  simp only [zh]
  rw [Jm]
  simp [*]
 ·cases h
  simp only [zh, Jba]
  rw [Jm]
  simp [*]) bigN s r h
def jx (k0 : Jl) (s : (Int × Int)) : Option (LR (Int × Int) Int) := match s with
 | (s0, s1) => (if (ilt s1 (flen k0.Rows)) = true then (J6 (Kn (j9 k0 s1) bigN (s0, 0)) fun v17 => some (.nx (v17, (iadd L s1 1))))
 else some (.dn s0))
def zp (k0 : Jl) (s : (Int × Int)) : St := match s with
 | (s0, s1) => ⟨fr [(1, .ptr 1 0 0), (3, I L s0), (4, I L s1)], hl [(1, .box 0 [encF Jq k0.Rows])]⟩
def Ja7 (k0 : Jl) (x : Int) : LE × St := (.exit 0, ⟨fr [(3, I L x)], hl []⟩)
theorem Jib {k0} {s} {r} (h : Kn (jx k0) bigN s = some r) : LK env [] 0 [1, 3, 4] J6o (some (zp k0 s)) = some (Ja7 k0 r) := Kh (st := zp k0) (out := Ja7 k0) (by
 clear h s r
 rintro ⟨s0, s1⟩ x h
 simp only [jx] at h
 rcases ifC h with ⟨c6, h⟩ | ⟨c6, h⟩
 ·obtain ⟨v18, h17, h⟩ := oS h
  have f19 := Jh0 h17
  simp only [zh, Jba, J5] at f19
  try simp only [Jg, Jh, Jk, Jr, Ju, Jt, Js, Jv] at f19
  cases h
  simp only [zp]
  rw [Jm]
  try simp only [c6] at f19
  simp [*]
 ·cases h
  simp only [zp, Ja7]
  rw [Jm]
  simp [*]) bigN s r h
def zf (p0 : Jl) : Option Int := (J6 (Zm p0) fun v3 => (if (bnot v3) = true then some 0
 else (J6 (Kn (jx p0) bigN (0, 0)) fun v20 => some v20)))
theorem Jji {p0} {r} (h : zf p0 = some r) : FC env 10 [.agg [encF Jq p0.Rows]] none = some (I L r, fun _ => none) := by
 unfold zf at h
 obtain ⟨v3, h2, h⟩ := oS h
 have f1 := Jds h2
 rcases ifC h with ⟨c4, h⟩ | ⟨c4, h⟩
 ·cases h
  refine J0 (lf := lf10) rfl rfl rfl ?_
  simp only [lf10, lc10]
  rcases tof v3 with a5 | a5
  ·simp [a5] at c4
  ·simp [*]
 ·obtain ⟨v22, h21, h⟩ := oS h
  have f23 := Jib h21
  simp only [zp, Ja7, J5] at f23
  try simp only [Jg, Jh, Jk, Jr, Ju, Jt, Js, Jv] at f23
  cases h
  refine J0 (lf := lf10) rfl rfl rfl ?_
  simp only [lf10, lc10]
  rcases tof v3 with a25 | a25
  ·try simp only [a25] at f23
   simp [*]
  ·simp [a25] at c4
attribute [simp] c4_0 c4_1 c4_2 c4_3 c4_4 c4_5 c4_7
theorem c4_L0_u : EC Γ ps 0 c4_L0 σ = EC Γ ps 0 (.seq (.seq (.reg false c4_2) (.cond (.t 12) .skip (.seq (.trim [1]) (.exit 0)))) (.seq (.blk 1 (.seq (.reg false c4_3) (.cond (.t 32) (.seq (.reg false c4_4) (.seq (.trim [2]) .ret)) .skip))) (.reg false c4_5))) σ := rfl
attribute [simp ↓] c4_L0_u
def Xy (k0 : Zk) (s : Int) : Option (LR Int (Bool ⊕ Unit)) := match s with
 | s0 => (if (band (ilt s0 (flen k0.Tracks)) (ilt s0 9)) = true then (J6 (fget k0.Tracks s0) fun v4 => (J6 (gOpt (bnot (igt (flen v4.Cells) 40)) (Jbp v4.Cells)) fun v8 => (if (bor (igt (flen v4.Cells) 40) (bnot (v8.getD false))) = true then some (.dn (.inl false))
 else some (.nx (iadd L s0 1)))))
 else some (.dn (.inr ())))
def Ym (k0 : Zk) (s : Int) : St := match s with
 | s0 => ⟨fr [(1, .ptr 1 0 0), (3, I L s0)], hl [(1, .box 0 [encF Jc k0.Tracks, encF Jq k0.Region.Rows, I L k0.Index, I L k0.From.X, I L k0.From.Y])]⟩
def Z2 (k0 : Zk) (x : (Bool ⊕ Unit)) : LE × St := match x with
 | .inl x => (.ret, ⟨fr [(2, .bool x)], hl []⟩)
 | .inr x => (.exit 0, ⟨fr [(1, .ptr 1 0 0)], hl [(1, .box 0 [encF Jc k0.Tracks, encF Jq k0.Region.Rows, I L k0.Index, I L k0.From.X, I L k0.From.Y])]⟩)
theorem Ji7 {k0} {s} {r} (h : Kn (Xy k0) bigN s = some r) : LK env [] 0 [1, 3] c4_L0 (some (Ym k0 s)) = some (Z2 k0 r) := Kh (st := Ym k0) (out := Z2 k0) (by
 clear h s r
 rintro s0 x h
 simp only [Xy] at h
 rcases ifC h with ⟨c1, h⟩ | ⟨c1, h⟩
 ·obtain ⟨v4, h3, h⟩ := oS h
  have f2 := Kf (e := Jc) h3
  obtain ⟨v8, h7, h⟩ := oS h
  have f6 := fun (q0 : (igt (flen v4.Cells) 40) = false) => Jf4 (Qp false h7 (Jeb q0))
  rcases ifC h with ⟨c9, h⟩ | ⟨c9, h⟩
  ·cases h
   simp only [Ym, Z2]
   rw [Jm]
   rcases tof (ilt s0 (flen k0.Tracks)) with a10 | a10 <;> rcases tof (ilt s0 9) with a11 | a11 <;> rcases tof (igt (flen v4.Cells) 40) with a12 | a12 <;> rcases tof (v8.getD false) with a13 | a13 <;> (try (simp [a10, a11, a12, a13] at c9 c1; done)) <;> simp [*]
  ·cases h
   simp only [Ym]
   rw [Jm]
   rcases tof (ilt s0 (flen k0.Tracks)) with a14 | a14 <;> rcases tof (ilt s0 9) with a15 | a15 <;> rcases tof (igt (flen v4.Cells) 40) with a16 | a16 <;> rcases tof (v8.getD false) with a17 | a17 <;> (try (simp [a14, a15, a16, a17] at c9 c1; done)) <;> simp [*]
 ·cases h
  simp only [Ym, Z2]
  rw [Jm]
  rcases tof (ilt s0 (flen k0.Tracks)) with a18 | a18 <;> rcases tof (ilt s0 9) with a19 | a19 <;> (try (simp [a18, a19] at c1; done)) <;> simp [*]) bigN s r h
def Jcy (p0 : Zk) : Option Bool := (J6 (Kn (Xy p0) bigN 0) fun v11 => (match v11 with
 | .inl v11x => some v11x
 | .inr v11x => (J6 (gOpt (ile (flen p0.Tracks) 8) (Jbp (flit ([p0.From] : List Ja)))) fun v16 => (J6 (gOpt (band (ile (flen p0.Tracks) 8) (v16.getD false)) (zf p0.Region)) fun v19 => some (band (band (ile (flen p0.Tracks) 8) (v16.getD false)) (ile (v19.getD 0) 150))))))
theorem Jkv {p0} {r} (h : Jcy p0 = some r) : FC env 4 [.agg [encF Jc p0.Tracks, encF Jq p0.Region.Rows, I L p0.Index, I L p0.From.X, I L p0.From.Y]] none = some (.bool r, fun _ => none) := by
 unfold Jcy at h
 obtain ⟨v21, h20, h⟩ := oS h
 have f22 := Ji7 h20
 cases v21 with
 | inl v21x =>
  try simp only at h
  simp only [Ym, Z2, J5] at f22
  try simp only [Jg, Jh, Jk, Jr, Ju, Jt, Js, Jv] at f22
  cases h
  refine J0 (lf := lf4) rfl rfl rfl ?_
  simp only [lf4, lc4]
  simp [*]
 | inr v21x =>
  try simp only at h
  simp only [Ym, Z2, J5] at f22
  try simp only [Jg, Jh, Jk, Jr, Ju, Jt, Js, Jv] at f22
  have f25 := fun (H : Heap) (g0 : Nat) => bszV_ok (e := Jf) H g0 1 2 27 [p0.From] [I L p0.From.X, I L p0.From.Y] rfl (by simp [Jf]) rfl rfl
  obtain ⟨v28, h27, h⟩ := oS h
  have f26 := fun (q0 : (ile (flen p0.Tracks) 8) = true) => Jf4 (Qp false h27 q0)
  obtain ⟨v31, h30, h⟩ := oS h
  have f29 := fun (q0 : (band (ile (flen p0.Tracks) 8) (v28.getD false)) = true) => Jji (Qp 0 h30 q0)
  cases h
  refine J0 (lf := lf4) rfl rfl rfl ?_
  simp only [lf4, lc4]
  rcases tof (ile (flen p0.Tracks) 8) with a32 | a32 <;> rcases tof (v28.getD false) with a33 | a33 <;> (try simp only [a32, a33] at f22) <;> simp [*]
def Ja6 : Bool := true
theorem Jfp : FC env 5 [] none = some (.bool Ja6, fun _ => none) := Ji1.2 ⟨60, by kernel_rfl⟩
attribute [simp] c59_0 c59_1
def Jd (p0 : Int) (p1 : Int) (p2 : Int) : Bool := (band (ige p0 p1) (ile p0 p2))
def t_flow_within (p0 : Int) (p1 : Int) (p2 : Int) : Option Bool := some (Jd p0 p1 p2)
theorem Qb (p0 : Int) (p1 : Int) (p2 : Int) : FC env 59 [I L p0, I L p1, I L p2] none = some (.bool (Jd p0 p1 p2), fun _ => none) := by
 unfold Jd
 refine J0 (lf := lf59) rfl rfl rfl ?_
 simp only [lf59, lc59]
 rcases tof (ige p0 p1) with a1 | a1
 ·simp [*]
 ·simp [*]
attribute [simp] c58_0 c58_1
def Z8 (p0 : Int) (p1 : Int) (p2 : Int) : Bool := (band (Jd p0 p1 p2) (ieq (irem p0 2) 0))
def t_flow_even (p0 : Int) (p1 : Int) (p2 : Int) : Option Bool := some (Z8 p0 p1 p2)
theorem Jl8 (p0 : Int) (p1 : Int) (p2 : Int) : FC env 58 [I L p0, I L p1, I L p2] none = some (.bool (Z8 p0 p1 p2), fun _ => none) := by
 unfold Z8
 have f1 := Qb p0 p1 p2
 refine J0 (lf := lf58) rfl rfl rfl ?_
 simp only [lf58, lc58]
 rcases tof (Jd p0 p1 p2) with a2 | a2
 ·simp [*, (show ieq 2 0 = false from rfl)]
 ·simp [*, (show ieq 2 0 = false from rfl)]
attribute [simp] c32_0 c32_1
def Yz (p0 : Jy) : Jj9 := (⟨(bor (bnot (Z8 p0.Pitch 32 1024)) (bnot (Z8 p0.Height 4 1024))), (bor (bor (bnot (Jd p0.Walls 0 8)) (bnot (Jd p0.Top 0 16))) (bnot (Jd p0.Bottom 0 16))), (bor (bnot (Jd p0.Pattern 0 3)) (bnot (Jd p0.Spacing 1 64))), (bor (bor (bor (bnot (Jd p0.Reach 0 64)) (bnot (Jd p0.Gap 0 64))) (bnot (Jd p0.Brim 0 64))) (bnot (Jd p0.Skirt 0 63))), (bor (bnot (Jd p0.Drop 1 1073741824)) (bnot (Jd p0.Retract 0 65536))), (bor (bor (bor (bnot (Jd p0.Feed 1 1048576)) (bnot (Jd p0.Travel 1 1048576))) (bnot (Jd p0.MinTime 0 1048576))) (bnot (Jd p0.MinFeed 1 p0.Feed))), (bor (bnot (Jd p0.Nozzle 0 400000)) (bnot (Jd p0.Bed 0 400000)))⟩ : Jj9)
def t_flow_check (p0 : Jy) : Option Jj9 := some (Yz p0)
theorem Jqx (p0 : Jy) : FC env 32 [.agg [I L p0.Pitch, I L p0.Height, I L p0.Walls, I L p0.Top, I L p0.Bottom, I L p0.Pattern, I L p0.Spacing, .bool p0.Support, I L p0.Reach, I L p0.Gap, I L p0.Brim, I L p0.Skirt, I L p0.Drop, I L p0.Feed, I L p0.Travel, I L p0.Retract, I L p0.MinTime, I L p0.MinFeed, I L p0.Nozzle, I L p0.Bed]] none = some (.agg [.bool (((Yz p0)).grid), .bool (((Yz p0)).solid), .bool (((Yz p0)).pattern), .bool (((Yz p0)).around), .bool (((Yz p0)).filament), .bool (((Yz p0)).speeds), .bool (((Yz p0)).heat)], fun _ => none) := by
 unfold Yz
 refine J0 (lf := lf32) rfl rfl rfl ?_
 simp only [lf32, lc32]
 simp [-c32_1]
 unfold c32_1
 rw [Q2 (v := (.ptr 1 0 0))]
 rotate_left
 ·rfl
 ·simp []
 rw [Q2 (v := (I L p0.Pitch))]
 rotate_left
 ·rfl
 ·simp []
 have f1 := Jl8 p0.Pitch 32 1024
 rw [Q2 (v := (.bool (Z8 p0.Pitch 32 1024)))]
 rotate_left
 ·rfl
 ·simp [f1]
 rw [Q2 (v := (.bool (bnot (Z8 p0.Pitch 32 1024))))]
 rotate_left
 ·rfl
 ·simp []
 rw [Q2 (v := (.bool (bnot (Z8 p0.Pitch 32 1024))))]
 rotate_left
 ·rfl
 ·simp []
 rw [Xd (c := (bnot (Z8 p0.Pitch 32 1024))) (v := (.ptr 1 0 1))]
 rotate_left
 ·rfl
 ·simp
 ·intro q
  simp [q]
 rw [Xd (c := (bnot (Z8 p0.Pitch 32 1024))) (v := (I L p0.Height))]
 rotate_left
 ·rfl
 ·simp
 ·intro q
  simp [q]
 have f2 := Jl8 p0.Height 4 1024
 rw [Xd (c := (bnot (Z8 p0.Pitch 32 1024))) (v := (.bool (Z8 p0.Height 4 1024)))]
 rotate_left
 ·rfl
 ·simp
 ·intro q
  simp [q, f2]
 rw [Xd (c := (bnot (Z8 p0.Pitch 32 1024))) (v := (.bool (bnot (Z8 p0.Height 4 1024))))]
 rotate_left
 ·rfl
 ·simp
 ·intro q
  simp [q]
 rw [Q2 (v := (.bool (bor (bnot (Z8 p0.Pitch 32 1024)) (bnot (Z8 p0.Height 4 1024)))))]
 rotate_left
 ·rfl
 ·rcases tof (bnot (Z8 p0.Pitch 32 1024)) with q | q <;> simp [q]
 rw [Q2 (v := (.ptr 1 0 2))]
 rotate_left
 ·rfl
 ·simp []
 rw [Q2 (v := (I L p0.Walls))]
 rotate_left
 ·rfl
 ·simp []
 have f3 := Qb p0.Walls 0 8
 rw [Q2 (v := (.bool (Jd p0.Walls 0 8)))]
 rotate_left
 ·rfl
 ·simp [f3]
 rw [Q2 (v := (.bool (bnot (Jd p0.Walls 0 8))))]
 rotate_left
 ·rfl
 ·simp []
 rw [Q2 (v := (.bool (bnot (Jd p0.Walls 0 8))))]
 rotate_left
 ·rfl
 ·simp []
 rw [Xd (c := (bnot (Jd p0.Walls 0 8))) (v := (.ptr 1 0 3))]
 rotate_left
 ·rfl
 ·simp
 ·intro q
  simp [q]
 rw [Xd (c := (bnot (Jd p0.Walls 0 8))) (v := (I L p0.Top))]
 rotate_left
 ·rfl
 ·simp
 ·intro q
  simp [q]
 have f4 := Qb p0.Top 0 16
 rw [Xd (c := (bnot (Jd p0.Walls 0 8))) (v := (.bool (Jd p0.Top 0 16)))]
 rotate_left
 ·rfl
 ·simp
 ·intro q
  simp [q, f4]
 rw [Xd (c := (bnot (Jd p0.Walls 0 8))) (v := (.bool (bnot (Jd p0.Top 0 16))))]
 rotate_left
 ·rfl
 ·simp
 ·intro q
  simp [q]
 rw [Q2 (v := (.bool (bor (bnot (Jd p0.Walls 0 8)) (bnot (Jd p0.Top 0 16)))))]
 rotate_left
 ·rfl
 ·rcases tof (bnot (Jd p0.Walls 0 8)) with q | q <;> simp [q]
 rw [Q2 (v := (.bool (bor (bnot (Jd p0.Walls 0 8)) (bnot (Jd p0.Top 0 16)))))]
 rotate_left
 ·rfl
 ·simp []
 rw [Xd (c := (bor (bnot (Jd p0.Walls 0 8)) (bnot (Jd p0.Top 0 16)))) (v := (.ptr 1 0 4))]
 rotate_left
 ·rfl
 ·simp
 ·intro q
  simp [q]
 rw [Xd (c := (bor (bnot (Jd p0.Walls 0 8)) (bnot (Jd p0.Top 0 16)))) (v := (I L p0.Bottom))]
 rotate_left
 ·rfl
 ·simp
 ·intro q
  simp [q]
 have f5 := Qb p0.Bottom 0 16
 rw [Xd (c := (bor (bnot (Jd p0.Walls 0 8)) (bnot (Jd p0.Top 0 16)))) (v := (.bool (Jd p0.Bottom 0 16)))]
 rotate_left
 ·rfl
 ·simp
 ·intro q
  simp [q, f5]
 rw [Xd (c := (bor (bnot (Jd p0.Walls 0 8)) (bnot (Jd p0.Top 0 16)))) (v := (.bool (bnot (Jd p0.Bottom 0 16))))]
 rotate_left
 ·rfl
 ·simp
 ·intro q
  simp [q]
 rw [Q2 (v := (.bool (bor (bor (bnot (Jd p0.Walls 0 8)) (bnot (Jd p0.Top 0 16))) (bnot (Jd p0.Bottom 0 16)))))]
 rotate_left
 ·rfl
 ·rcases tof (bor (bnot (Jd p0.Walls 0 8)) (bnot (Jd p0.Top 0 16))) with q | q <;> simp [q]
 rw [Q2 (v := (.ptr 1 0 5))]
 rotate_left
 ·rfl
 ·simp []
 rw [Q2 (v := (I L p0.Pattern))]
 rotate_left
 ·rfl
 ·simp []
 have f6 := Qb p0.Pattern 0 3
 rw [Q2 (v := (.bool (Jd p0.Pattern 0 3)))]
 rotate_left
 ·rfl
 ·simp [f6]
 rw [Q2 (v := (.bool (bnot (Jd p0.Pattern 0 3))))]
 rotate_left
 ·rfl
 ·simp []
 rw [Q2 (v := (.bool (bnot (Jd p0.Pattern 0 3))))]
 rotate_left
 ·rfl
 ·simp []
 rw [Xd (c := (bnot (Jd p0.Pattern 0 3))) (v := (.ptr 1 0 6))]
 rotate_left
 ·rfl
 ·simp
 ·intro q
  simp [q]
 rw [Xd (c := (bnot (Jd p0.Pattern 0 3))) (v := (I L p0.Spacing))]
 rotate_left
 ·rfl
 ·simp
 ·intro q
  simp [q]
 have f7 := Qb p0.Spacing 1 64
 rw [Xd (c := (bnot (Jd p0.Pattern 0 3))) (v := (.bool (Jd p0.Spacing 1 64)))]
 rotate_left
 ·rfl
 ·simp
 ·intro q
  simp [q, f7]
 rw [Xd (c := (bnot (Jd p0.Pattern 0 3))) (v := (.bool (bnot (Jd p0.Spacing 1 64))))]
 rotate_left
 ·rfl
 ·simp
 ·intro q
  simp [q]
 rw [Q2 (v := (.bool (bor (bnot (Jd p0.Pattern 0 3)) (bnot (Jd p0.Spacing 1 64)))))]
 rotate_left
 ·rfl
 ·rcases tof (bnot (Jd p0.Pattern 0 3)) with q | q <;> simp [q]
 rw [Q2 (v := (.ptr 1 0 8))]
 rotate_left
 ·rfl
 ·simp []
 rw [Q2 (v := (I L p0.Reach))]
 rotate_left
 ·rfl
 ·simp []
 have f8 := Qb p0.Reach 0 64
 rw [Q2 (v := (.bool (Jd p0.Reach 0 64)))]
 rotate_left
 ·rfl
 ·simp [f8]
 rw [Q2 (v := (.bool (bnot (Jd p0.Reach 0 64))))]
 rotate_left
 ·rfl
 ·simp []
 rw [Q2 (v := (.bool (bnot (Jd p0.Reach 0 64))))]
 rotate_left
 ·rfl
 ·simp []
 rw [Xd (c := (bnot (Jd p0.Reach 0 64))) (v := (.ptr 1 0 9))]
 rotate_left
 ·rfl
 ·simp
 ·intro q
  simp [q]
 rw [Xd (c := (bnot (Jd p0.Reach 0 64))) (v := (I L p0.Gap))]
 rotate_left
 ·rfl
 ·simp
 ·intro q
  simp [q]
 have f9 := Qb p0.Gap 0 64
 rw [Xd (c := (bnot (Jd p0.Reach 0 64))) (v := (.bool (Jd p0.Gap 0 64)))]
 rotate_left
 ·rfl
 ·simp
 ·intro q
  simp [q, f9]
 rw [Xd (c := (bnot (Jd p0.Reach 0 64))) (v := (.bool (bnot (Jd p0.Gap 0 64))))]
 rotate_left
 ·rfl
 ·simp
 ·intro q
  simp [q]
 rw [Q2 (v := (.bool (bor (bnot (Jd p0.Reach 0 64)) (bnot (Jd p0.Gap 0 64)))))]
 rotate_left
 ·rfl
 ·rcases tof (bnot (Jd p0.Reach 0 64)) with q | q <;> simp [q]
 rw [Q2 (v := (.bool (bor (bnot (Jd p0.Reach 0 64)) (bnot (Jd p0.Gap 0 64)))))]
 rotate_left
 ·rfl
 ·simp []
 rw [Xd (c := (bor (bnot (Jd p0.Reach 0 64)) (bnot (Jd p0.Gap 0 64)))) (v := (.ptr 1 0 10))]
 rotate_left
 ·rfl
 ·simp
 ·intro q
  simp [q]
 rw [Xd (c := (bor (bnot (Jd p0.Reach 0 64)) (bnot (Jd p0.Gap 0 64)))) (v := (I L p0.Brim))]
 rotate_left
 ·rfl
 ·simp
 ·intro q
  simp [q]
 have f10 := Qb p0.Brim 0 64
 rw [Xd (c := (bor (bnot (Jd p0.Reach 0 64)) (bnot (Jd p0.Gap 0 64)))) (v := (.bool (Jd p0.Brim 0 64)))]
 rotate_left
 ·rfl
 ·simp
 ·intro q
  simp [q, f10]
 rw [Xd (c := (bor (bnot (Jd p0.Reach 0 64)) (bnot (Jd p0.Gap 0 64)))) (v := (.bool (bnot (Jd p0.Brim 0 64))))]
 rotate_left
 ·rfl
 ·simp
 ·intro q
  simp [q]
 rw [Q2 (v := (.bool (bor (bor (bnot (Jd p0.Reach 0 64)) (bnot (Jd p0.Gap 0 64))) (bnot (Jd p0.Brim 0 64)))))]
 rotate_left
 ·rfl
 ·rcases tof (bor (bnot (Jd p0.Reach 0 64)) (bnot (Jd p0.Gap 0 64))) with q | q <;> simp [q]
 rw [Q2 (v := (.bool (bor (bor (bnot (Jd p0.Reach 0 64)) (bnot (Jd p0.Gap 0 64))) (bnot (Jd p0.Brim 0 64)))))]
 rotate_left
 ·rfl
 ·simp []
 rw [Xd (c := (bor (bor (bnot (Jd p0.Reach 0 64)) (bnot (Jd p0.Gap 0 64))) (bnot (Jd p0.Brim 0 64)))) (v := (.ptr 1 0 11))]
 rotate_left
 ·rfl
 ·simp
 ·intro q
  simp [q]
 rw [Xd (c := (bor (bor (bnot (Jd p0.Reach 0 64)) (bnot (Jd p0.Gap 0 64))) (bnot (Jd p0.Brim 0 64)))) (v := (I L p0.Skirt))]
 rotate_left
 ·rfl
 ·simp
 ·intro q
  simp [q]
 have f11 := Qb p0.Skirt 0 63
 rw [Xd (c := (bor (bor (bnot (Jd p0.Reach 0 64)) (bnot (Jd p0.Gap 0 64))) (bnot (Jd p0.Brim 0 64)))) (v := (.bool (Jd p0.Skirt 0 63)))]
 rotate_left
 ·rfl
 ·simp
 ·intro q
  simp [q, f11]
 rw [Xd (c := (bor (bor (bnot (Jd p0.Reach 0 64)) (bnot (Jd p0.Gap 0 64))) (bnot (Jd p0.Brim 0 64)))) (v := (.bool (bnot (Jd p0.Skirt 0 63))))]
 rotate_left
 ·rfl
 ·simp
 ·intro q
  simp [q]
 rw [Q2 (v := (.bool (bor (bor (bor (bnot (Jd p0.Reach 0 64)) (bnot (Jd p0.Gap 0 64))) (bnot (Jd p0.Brim 0 64))) (bnot (Jd p0.Skirt 0 63)))))]
 rotate_left
 ·rfl
 ·rcases tof (bor (bor (bnot (Jd p0.Reach 0 64)) (bnot (Jd p0.Gap 0 64))) (bnot (Jd p0.Brim 0 64))) with q | q <;> simp [q]
 rw [Q2 (v := (.ptr 1 0 12))]
 rotate_left
 ·rfl
 ·simp []
 rw [Q2 (v := (I L p0.Drop))]
 rotate_left
 ·rfl
 ·simp []
 have f12 := Qb p0.Drop 1 1073741824
 rw [Q2 (v := (.bool (Jd p0.Drop 1 1073741824)))]
 rotate_left
 ·rfl
 ·simp [f12]
 rw [Q2 (v := (.bool (bnot (Jd p0.Drop 1 1073741824))))]
 rotate_left
 ·rfl
 ·simp []
 rw [Q2 (v := (.bool (bnot (Jd p0.Drop 1 1073741824))))]
 rotate_left
 ·rfl
 ·simp []
 rw [Xd (c := (bnot (Jd p0.Drop 1 1073741824))) (v := (.ptr 1 0 15))]
 rotate_left
 ·rfl
 ·simp
 ·intro q
  simp [q]
 rw [Xd (c := (bnot (Jd p0.Drop 1 1073741824))) (v := (I L p0.Retract))]
 rotate_left
 ·rfl
 ·simp
 ·intro q
  simp [q]
 have f13 := Qb p0.Retract 0 65536
 rw [Xd (c := (bnot (Jd p0.Drop 1 1073741824))) (v := (.bool (Jd p0.Retract 0 65536)))]
 rotate_left
 ·rfl
 ·simp
 ·intro q
  simp [q, f13]
 rw [Xd (c := (bnot (Jd p0.Drop 1 1073741824))) (v := (.bool (bnot (Jd p0.Retract 0 65536))))]
 rotate_left
 ·rfl
 ·simp
 ·intro q
  simp [q]
 rw [Q2 (v := (.bool (bor (bnot (Jd p0.Drop 1 1073741824)) (bnot (Jd p0.Retract 0 65536)))))]
 rotate_left
 ·rfl
 ·rcases tof (bnot (Jd p0.Drop 1 1073741824)) with q | q <;> simp [q]
 rw [Q2 (v := (.ptr 1 0 13))]
 rotate_left
 ·rfl
 ·simp []
 rw [Q2 (v := (I L p0.Feed))]
 rotate_left
 ·rfl
 ·simp []
 have f14 := Qb p0.Feed 1 1048576
 rw [Q2 (v := (.bool (Jd p0.Feed 1 1048576)))]
 rotate_left
 ·rfl
 ·simp [f14]
 rw [Q2 (v := (.bool (bnot (Jd p0.Feed 1 1048576))))]
 rotate_left
 ·rfl
 ·simp []
 rw [Q2 (v := (.bool (bnot (Jd p0.Feed 1 1048576))))]
 rotate_left
 ·rfl
 ·simp []
 rw [Xd (c := (bnot (Jd p0.Feed 1 1048576))) (v := (.ptr 1 0 14))]
 rotate_left
 ·rfl
 ·simp
 ·intro q
  simp [q]
 rw [Xd (c := (bnot (Jd p0.Feed 1 1048576))) (v := (I L p0.Travel))]
 rotate_left
 ·rfl
 ·simp
 ·intro q
  simp [q]
 have f15 := Qb p0.Travel 1 1048576
 rw [Xd (c := (bnot (Jd p0.Feed 1 1048576))) (v := (.bool (Jd p0.Travel 1 1048576)))]
 rotate_left
 ·rfl
 ·simp
 ·intro q
  simp [q, f15]
 rw [Xd (c := (bnot (Jd p0.Feed 1 1048576))) (v := (.bool (bnot (Jd p0.Travel 1 1048576))))]
 rotate_left
 ·rfl
 ·simp
 ·intro q
  simp [q]
 rw [Q2 (v := (.bool (bor (bnot (Jd p0.Feed 1 1048576)) (bnot (Jd p0.Travel 1 1048576)))))]
 rotate_left
 ·rfl
 ·rcases tof (bnot (Jd p0.Feed 1 1048576)) with q | q <;> simp [q]
 rw [Q2 (v := (.bool (bor (bnot (Jd p0.Feed 1 1048576)) (bnot (Jd p0.Travel 1 1048576)))))]
 rotate_left
 ·rfl
 ·simp []
 rw [Xd (c := (bor (bnot (Jd p0.Feed 1 1048576)) (bnot (Jd p0.Travel 1 1048576)))) (v := (.ptr 1 0 16))]
 rotate_left
 ·rfl
 ·simp
 ·intro q
  simp [q]
 rw [Xd (c := (bor (bnot (Jd p0.Feed 1 1048576)) (bnot (Jd p0.Travel 1 1048576)))) (v := (I L p0.MinTime))]
 rotate_left
 ·rfl
 ·simp
 ·intro q
  simp [q]
 have f16 := Qb p0.MinTime 0 1048576
 rw [Xd (c := (bor (bnot (Jd p0.Feed 1 1048576)) (bnot (Jd p0.Travel 1 1048576)))) (v := (.bool (Jd p0.MinTime 0 1048576)))]
 rotate_left
 ·rfl
 ·simp
 ·intro q
  simp [q, f16]
 rw [Xd (c := (bor (bnot (Jd p0.Feed 1 1048576)) (bnot (Jd p0.Travel 1 1048576)))) (v := (.bool (bnot (Jd p0.MinTime 0 1048576))))]
 rotate_left
 ·rfl
 ·simp
 ·intro q
  simp [q]
 rw [Q2 (v := (.bool (bor (bor (bnot (Jd p0.Feed 1 1048576)) (bnot (Jd p0.Travel 1 1048576))) (bnot (Jd p0.MinTime 0 1048576)))))]
 rotate_left
 ·rfl
 ·rcases tof (bor (bnot (Jd p0.Feed 1 1048576)) (bnot (Jd p0.Travel 1 1048576))) with q | q <;> simp [q]
 rw [Q2 (v := (.bool (bor (bor (bnot (Jd p0.Feed 1 1048576)) (bnot (Jd p0.Travel 1 1048576))) (bnot (Jd p0.MinTime 0 1048576)))))]
 rotate_left
 ·rfl
 ·simp []
 rw [Xd (c := (bor (bor (bnot (Jd p0.Feed 1 1048576)) (bnot (Jd p0.Travel 1 1048576))) (bnot (Jd p0.MinTime 0 1048576)))) (v := (.ptr 1 0 17))]
 rotate_left
 ·rfl
 ·simp
 ·intro q
  simp [q]
 rw [Xd (c := (bor (bor (bnot (Jd p0.Feed 1 1048576)) (bnot (Jd p0.Travel 1 1048576))) (bnot (Jd p0.MinTime 0 1048576)))) (v := (I L p0.MinFeed))]
 rotate_left
 ·rfl
 ·simp
 ·intro q
  simp [q]
 rw [Xd (c := (bor (bor (bnot (Jd p0.Feed 1 1048576)) (bnot (Jd p0.Travel 1 1048576))) (bnot (Jd p0.MinTime 0 1048576)))) (v := (.ptr 1 0 13))]
 rotate_left
 ·rfl
 ·simp
 ·intro q
  simp [q]
 rw [Xd (c := (bor (bor (bnot (Jd p0.Feed 1 1048576)) (bnot (Jd p0.Travel 1 1048576))) (bnot (Jd p0.MinTime 0 1048576)))) (v := (I L p0.Feed))]
 rotate_left
 ·rfl
 ·simp
 ·intro q
  simp [q]
 have f17 := Qb p0.MinFeed 1 p0.Feed
 rw [Xd (c := (bor (bor (bnot (Jd p0.Feed 1 1048576)) (bnot (Jd p0.Travel 1 1048576))) (bnot (Jd p0.MinTime 0 1048576)))) (v := (.bool (Jd p0.MinFeed 1 p0.Feed)))]
 rotate_left
 ·rfl
 ·simp
 ·intro q
  simp [q, f17]
 rw [Xd (c := (bor (bor (bnot (Jd p0.Feed 1 1048576)) (bnot (Jd p0.Travel 1 1048576))) (bnot (Jd p0.MinTime 0 1048576)))) (v := (.bool (bnot (Jd p0.MinFeed 1 p0.Feed))))]
 rotate_left
 ·rfl
 ·simp
 ·intro q
  simp [q]
 rw [Q2 (v := (.bool (bor (bor (bor (bnot (Jd p0.Feed 1 1048576)) (bnot (Jd p0.Travel 1 1048576))) (bnot (Jd p0.MinTime 0 1048576))) (bnot (Jd p0.MinFeed 1 p0.Feed)))))]
 rotate_left
 ·rfl
 ·rcases tof (bor (bor (bnot (Jd p0.Feed 1 1048576)) (bnot (Jd p0.Travel 1 1048576))) (bnot (Jd p0.MinTime 0 1048576))) with q | q <;> simp [q]
 rw [Q2 (v := (.ptr 1 0 18))]
 rotate_left
 ·rfl
 ·simp []
 rw [Q2 (v := (I L p0.Nozzle))]
 rotate_left
 ·rfl
 ·simp []
 have f18 := Qb p0.Nozzle 0 400000
 rw [Q2 (v := (.bool (Jd p0.Nozzle 0 400000)))]
 rotate_left
 ·rfl
 ·simp [f18]
 rw [Q2 (v := (.bool (bnot (Jd p0.Nozzle 0 400000))))]
 rotate_left
 ·rfl
 ·simp []
 rw [Q2 (v := (.bool (bnot (Jd p0.Nozzle 0 400000))))]
 rotate_left
 ·rfl
 ·simp []
 rw [Xd (c := (bnot (Jd p0.Nozzle 0 400000))) (v := (.ptr 1 0 19))]
 rotate_left
 ·rfl
 ·simp
 ·intro q
  simp [q]
 rw [Xd (c := (bnot (Jd p0.Nozzle 0 400000))) (v := (I L p0.Bed))]
 rotate_left
 ·rfl
 ·simp
 ·intro q
  simp [q]
 have f19 := Qb p0.Bed 0 400000
 rw [Xd (c := (bnot (Jd p0.Nozzle 0 400000))) (v := (.bool (Jd p0.Bed 0 400000)))]
 rotate_left
 ·rfl
 ·simp
 ·intro q
  simp [q, f19]
 rw [Xd (c := (bnot (Jd p0.Nozzle 0 400000))) (v := (.bool (bnot (Jd p0.Bed 0 400000))))]
 rotate_left
 ·rfl
 ·simp
 ·intro q
  simp [q]
 rw [Q2 (v := (.bool (bor (bnot (Jd p0.Nozzle 0 400000)) (bnot (Jd p0.Bed 0 400000)))))]
 rotate_left
 ·rfl
 ·rcases tof (bnot (Jd p0.Nozzle 0 400000)) with q | q <;> simp [q]
 simp [*]
attribute [simp] c14_0 c14_1
def Q0 (p0 : Jy) : Bool := (band (beqB (((Yz p0)).grid) false) (band (beqB (((Yz p0)).solid) false) (band (beqB (((Yz p0)).pattern) false) (band (beqB (((Yz p0)).around) false) (band (beqB (((Yz p0)).filament) false) (band (beqB (((Yz p0)).speeds) false) (band (beqB (((Yz p0)).heat) false) true)))))))
def t_flow_Valid (p0 : Jy) : Option Bool := some (Q0 p0)
theorem Jlf (p0 : Jy) : FC env 14 [.agg [I L p0.Pitch, I L p0.Height, I L p0.Walls, I L p0.Top, I L p0.Bottom, I L p0.Pattern, I L p0.Spacing, .bool p0.Support, I L p0.Reach, I L p0.Gap, I L p0.Brim, I L p0.Skirt, I L p0.Drop, I L p0.Feed, I L p0.Travel, I L p0.Retract, I L p0.MinTime, I L p0.MinFeed, I L p0.Nozzle, I L p0.Bed]] none = some (.bool (Q0 p0), fun _ => none) := by
 unfold Q0
 have f1 := Jqx p0
 refine J0 (lf := lf14) rfl rfl rfl ?_
 simp only [lf14, lc14]
 simp [*]
attribute [simp] c33_0 c33_1
def K0 (p0 : Int) : Bool := (band (ige p0 (-4096)) (ilt p0 4096))
def t_region_ok (p0 : Int) : Option Bool := some (K0 p0)
theorem Jjb (p0 : Int) : FC env 33 [I L p0] none = some (.bool (K0 p0), fun _ => none) := by
 unfold K0
 refine J0 (lf := lf33) rfl rfl rfl ?_
 simp only [lf33, lc33]
 rcases tof (ige p0 (-4096)) with a1 | a1
 ·simp [*]
 ·simp [*]
attribute [simp] c60_0 c60_1
def Jcn (p0 : Kk) : Bool := (band (band (band (ige p0.From (-1048576)) (ile p0.From 1048576)) (ige p0.To (-1048576))) (ile p0.To 1048576))
def t_runs_fits (p0 : Kk) : Option Bool := some (Jcn p0)
theorem Jq8 (p0 : Kk) : FC env 60 [.agg [I L p0.From, I L p0.To]] none = some (.bool (Jcn p0), fun _ => none) := by
 unfold Jcn
 refine J0 (lf := lf60) rfl rfl rfl ?_
 simp only [lf60, lc60]
 rcases tof (ige p0.From (-1048576)) with a1 | a1 <;> rcases tof (ile p0.From 1048576) with a2 | a2 <;> rcases tof (ige p0.To (-1048576)) with a3 | a3 <;> simp [*]
attribute [simp] c34_0 c34_1 c34_2 c34_3 c34_4 c34_5 c34_6 c34_8
theorem c34_L0_u : EC Γ ps 0 J4z σ = EC Γ ps 0 (.seq (.reg false c34_2) (.seq (.cond (.t 8) .skip (.seq (.trim []) (.exit 0))) (.seq (.blk 1 (.seq (.reg false c34_3) (.seq (.reg true c34_4) (.cond (.t 36) (.seq (.reg false c34_5) (.seq (.trim [2]) .ret)) .skip)))) (.reg false c34_6)))) σ := rfl
attribute [simp ↓] c34_L0_u
def zs (k0 : (FS Kk)) (k1 : (FS Kk)) (k2 : Int) (s : Int) : Option (LR Int (Bool ⊕ Unit)) := match s with
 | s0 => (if (ilt s0 k2) = true then (J6 (fget k1 s0) fun v4 => (J6 (gOpt (band (bnot (bor (ige v4.From v4.To) (bnot (Jcn v4)))) (igt s0 0)) (fget k0 (isub L s0 1))) fun v8 => (if (bor (bor (ige v4.From v4.To) (bnot (Jcn v4))) (band (igt s0 0) (ile v4.From (((v8.getD (⟨0, 0⟩ : Kk))).To)))) = true then some (.dn (.inl false))
 else some (.nx (iadd L s0 1)))))
 else some (.dn (.inr ())))
def Jbh (k0 : (FS Kk)) (k1 : (FS Kk)) (k2 : Int) (s : Int) : St := match s with
 | s0 => ⟨fr [(0, encF Xn k0), (5, encF Xn k1), (6, I L k2), (7, I L s0)], hl []⟩
def Jb5 (k0 : (FS Kk)) (k1 : (FS Kk)) (k2 : Int) (x : (Bool ⊕ Unit)) : LE × St := match x with
 | .inl x => (.ret, ⟨fr [(2, .bool x)], hl []⟩)
 | .inr x => (.exit 0, ⟨fr [], hl []⟩)
theorem Jnu {k0} {k1} {k2} {s} {r} (h : Kn (zs k0 k1 k2) bigN s = some r) : LK env [] 0 [0, 5, 6, 7] J4z (some (Jbh k0 k1 k2 s)) = some (Jb5 k0 k1 k2 r) := Kh (st := Jbh k0 k1 k2) (out := Jb5 k0 k1 k2) (by
 clear h s r
 rintro s0 x h
 simp only [zs] at h
 rcases ifC h with ⟨c1, h⟩ | ⟨c1, h⟩
 ·obtain ⟨v4, h3, h⟩ := oS h
  have f2 := Kf (e := Xn) h3
  have f5 := Jq8 v4
  obtain ⟨v8, h7, h⟩ := oS h
  have f6 := fun (q0 : (bor (ige v4.From v4.To) (bnot (Jcn v4))) = false) (q1 : (igt s0 0) = true) => Kf (e := Xn) (Qp (⟨0, 0⟩ : Kk) h7 (Jog (Jeb q0) q1))
  rcases ifC h with ⟨c9, h⟩ | ⟨c9, h⟩
  ·cases h
   simp only [Jbh, Jb5]
   rw [Jm]
   rcases tof (ige v4.From v4.To) with a10 | a10 <;> rcases tof (Jcn v4) with a11 | a11 <;> rcases tof (igt s0 0) with a12 | a12 <;> rcases tof (ile v4.From (((v8.getD (⟨0, 0⟩ : Kk))).To)) with a13 | a13 <;> (try (simp [c1, a10, a11, a12, a13] at c9; done)) <;> simp [*]
  ·cases h
   simp only [Jbh]
   rw [Jm]
   rcases tof (ige v4.From v4.To) with a14 | a14 <;> rcases tof (Jcn v4) with a15 | a15 <;> rcases tof (igt s0 0) with a16 | a16 <;> rcases tof (ile v4.From (((v8.getD (⟨0, 0⟩ : Kk))).To)) with a17 | a17 <;> (try (simp [c1, a14, a15, a16, a17] at c9; done)) <;> simp [*]
 ·cases h
  simp only [Jbh, Jb5]
  rw [Jm]
  simp [*]) bigN s r h
def Jeo (p0 : (FS Kk)) : Option Bool := (J6 (Kn (zs p0 p0 (flen p0)) bigN 0) fun v11 => (match v11 with
 | .inl v11x => some v11x
 | .inr v11x => some true))
theorem Jll {p0} {r} (h : Jeo p0 = some r) : FC env 34 [encF Xn p0] none = some (.bool r, fun _ => none) := by
 unfold Jeo at h
 obtain ⟨v19, h18, h⟩ := oS h
 have f20 := Jnu h18
 cases v19 with
 | inl v19x =>
  try simp only at h
  simp only [Jbh, Jb5, J5] at f20
  try simp only [Jg, Jh, Jk, Jr, Ju, Jt, Js, Jv] at f20
  cases h
  refine J0 (lf := lf34) rfl rfl rfl ?_
  simp only [lf34, lc34]
  simp [*]
 | inr v19x =>
  try simp only at h
  simp only [Jbh, Jb5, J5] at f20
  try simp only [Jg, Jh, Jk, Jr, Ju, Jt, Js, Jv] at f20
  cases h
  refine J0 (lf := lf34) rfl rfl rfl ?_
  simp only [lf34, lc34]
  simp [*]
attribute [simp] c15_0 c15_1 c15_2 c15_3 c15_4 c15_5 c15_6 c15_7 c15_8 c15_10
theorem c15_L0_u : EC Γ ps 0 J24 σ = EC Γ ps 0 (.seq (.reg false c15_2) (.seq (.cond (.t 9) .skip (.seq (.trim []) (.exit 0))) (.seq (.blk 1 (.seq (.reg false c15_3) (.seq (.seq (.reg true c15_4) (.cond (.t 44) (.seq (.reg false c15_5) (.seq (.trim [2]) .ret)) .skip)) (.seq (.reg false c15_6) (.cond (.t 65) (.seq (.reg false c15_7) (.seq (.trim [2]) .ret)) .skip))))) (.reg false c15_8)))) σ := rfl
attribute [simp ↓] c15_L0_u
def Jaa (k0 : Jl) (k1 : (FS Jaf)) (k2 : Int) (s : Int) : Option (LR Int (Bool ⊕ Unit)) := match s with
 | s0 => (if (ilt s0 k2) = true then (J6 (fget k1 s0) fun v4 => (J6 (gOpt (band (bnot (bnot (K0 v4.Y))) (igt s0 0)) (fget k0.Rows (isub L s0 1))) fun v8 => (J6 (gOpt (bnot (bor (bor (bnot (K0 v4.Y)) (band (igt s0 0) (ile v4.Y (((v8.getD (⟨0, (FS.nil : (FS Kk))⟩ : Jaf))).Y)))) (ieq (flen v4.Runs) 0))) (Jeo v4.Runs)) fun v11 => (if (bor (bor (bor (bnot (K0 v4.Y)) (band (igt s0 0) (ile v4.Y (((v8.getD (⟨0, (FS.nil : (FS Kk))⟩ : Jaf))).Y)))) (ieq (flen v4.Runs) 0)) (bnot (v11.getD false))) = true then some (.dn (.inl false))
 else (J6 (fget v4.Runs 0) fun v15 => (J6 (gOpt (bnot (bnot (K0 v15.From))) (fget v4.Runs (isub L (flen v4.Runs) 1))) fun v19 => (if (bor (bnot (K0 v15.From)) (bnot (K0 (isub L (((v19.getD (⟨0, 0⟩ : Kk))).To) 1)))) = true then some (.dn (.inl false))
 else some (.nx (iadd L s0 1)))))))))
 else some (.dn (.inr ())))
def jn (k0 : Jl) (k1 : (FS Jaf)) (k2 : Int) (s : Int) : St := match s with
 | s0 => ⟨fr [(1, .ptr 1 0 0), (6, encF Jq k1), (7, I L k2), (8, I L s0)], hl [(1, .box 0 [encF Jq k0.Rows])]⟩
def zn (k0 : Jl) (k1 : (FS Jaf)) (k2 : Int) (x : (Bool ⊕ Unit)) : LE × St := match x with
 | .inl x => (.ret, ⟨fr [(2, .bool x)], hl []⟩)
 | .inr x => (.exit 0, ⟨fr [], hl []⟩)
theorem Jl1 {k0} {k1} {k2} {s} {r} (h : Kn (Jaa k0 k1 k2) bigN s = some r) : LK env [] 0 [1, 6, 7, 8] J24 (some (jn k0 k1 k2 s)) = some (zn k0 k1 k2 r) := Kh (st := jn k0 k1 k2) (out := zn k0 k1 k2) (by
 clear h s r
 rintro s0 x h
 simp only [Jaa] at h
 rcases ifC h with ⟨c1, h⟩ | ⟨c1, h⟩
 ·obtain ⟨v4, h3, h⟩ := oS h
  have f2 := Kf (e := Jq) h3
  have f5 := Jjb v4.Y
  obtain ⟨v8, h7, h⟩ := oS h
  have f6 := fun (q0 : (bnot (K0 v4.Y)) = false) (q1 : (igt s0 0) = true) => Kf (e := Jq) (Qp (⟨0, (FS.nil : (FS Kk))⟩ : Jaf) h7 (Jog (Jeb q0) q1))
  obtain ⟨v11, h10, h⟩ := oS h
  have f9 := fun (q0 : (bor (bor (bnot (K0 v4.Y)) (band (igt s0 0) (ile v4.Y (((v8.getD (⟨0, (FS.nil : (FS Kk))⟩ : Jaf))).Y)))) (ieq (flen v4.Runs) 0)) = false) => Jll (Qp false h10 (Jeb q0))
  rcases ifC h with ⟨c12, h⟩ | ⟨c12, h⟩
  ·cases h
   simp only [jn, zn]
   rw [Jm]
   rcases tof (K0 v4.Y) with a13 | a13
   ·rcases tof (igt s0 0) with a14 | a14
    ·rcases tof (ile v4.Y (((v8.getD (⟨0, (FS.nil : (FS Kk))⟩ : Jaf))).Y)) with a15 | a15
     ·simp [*]
     ·rcases tof (ieq (flen v4.Runs) 0) with a16 | a16
      ·simp [*]
      ·rcases tof (v11.getD false) with a17 | a17
       ·simp [c1, a13, a14, a15, a16, a17] at c12
       ·simp [*]
    ·rcases tof (ieq (flen v4.Runs) 0) with a18 | a18
     ·simp [*]
     ·rcases tof (v11.getD false) with a19 | a19
      ·simp [c1, a13, a14, a18, a19] at c12
      ·simp [*]
   ·simp [*]
  ·obtain ⟨v22, h21, h⟩ := oS h
   have f20 := Kf (e := Xn) h21
   have f23 := Jjb v22.From
   obtain ⟨v26, h25, h⟩ := oS h
   have f24 := fun (q0 : (bnot (K0 v22.From)) = false) => Kf (e := Xn) (Qp (⟨0, 0⟩ : Kk) h25 (Jeb q0))
   have f27 := Jjb (isub L (((v26.getD (⟨0, 0⟩ : Kk))).To) 1)
   rcases ifC h with ⟨c28, h⟩ | ⟨c28, h⟩
   ·cases h
    simp only [jn, zn]
    rw [Jm]
    rcases tof (K0 v4.Y) with a29 | a29
    ·rcases tof (igt s0 0) with a30 | a30
     ·rcases tof (ile v4.Y (((v8.getD (⟨0, (FS.nil : (FS Kk))⟩ : Jaf))).Y)) with a31 | a31
      ·simp [c1, a29, a30, a31] at c12
      ·rcases tof (ieq (flen v4.Runs) 0) with a32 | a32
       ·simp [c1, a29, a30, a31, a32] at c12
       ·rcases tof (v11.getD false) with a33 | a33
        ·rcases tof (K0 v22.From) with a34 | a34
         ·rcases tof (K0 (isub L (((v26.getD (⟨0, 0⟩ : Kk))).To) 1)) with a35 | a35
          ·simp [c1, a29, a30, a31, a32, a33, a34, a35] at c28
          ·simp [*]
         ·simp [*]
        ·simp [c1, a29, a30, a31, a32, a33] at c12
     ·rcases tof (ieq (flen v4.Runs) 0) with a36 | a36
      ·simp [c1, a29, a30, a36] at c12
      ·rcases tof (v11.getD false) with a37 | a37
       ·rcases tof (K0 v22.From) with a38 | a38
        ·rcases tof (K0 (isub L (((v26.getD (⟨0, 0⟩ : Kk))).To) 1)) with a39 | a39
         ·simp [c1, a29, a30, a36, a37, a38, a39] at c28
         ·simp [*]
        ·simp [*]
       ·simp [c1, a29, a30, a36, a37] at c12
    ·simp [c1, a29] at c12
   ·cases h
    simp only [jn]
    rw [Jm]
    rcases tof (K0 v4.Y) with a40 | a40
    ·rcases tof (igt s0 0) with a41 | a41
     ·rcases tof (ile v4.Y (((v8.getD (⟨0, (FS.nil : (FS Kk))⟩ : Jaf))).Y)) with a42 | a42
      ·simp [c1, a40, a41, a42] at c12
      ·rcases tof (ieq (flen v4.Runs) 0) with a43 | a43
       ·simp [c1, a40, a41, a42, a43] at c12
       ·rcases tof (v11.getD false) with a44 | a44
        ·rcases tof (K0 v22.From) with a45 | a45
         ·rcases tof (K0 (isub L (((v26.getD (⟨0, 0⟩ : Kk))).To) 1)) with a46 | a46
          ·simp [*]
          ·simp [c1, a40, a41, a42, a43, a44, a45, a46] at c28
         ·simp [c1, a40, a41, a42, a43, a44, a45] at c28
        ·simp [c1, a40, a41, a42, a43, a44] at c12
     ·rcases tof (ieq (flen v4.Runs) 0) with a47 | a47
      ·simp [c1, a40, a41, a47] at c12
      ·rcases tof (v11.getD false) with a48 | a48
       ·rcases tof (K0 v22.From) with a49 | a49
        ·rcases tof (K0 (isub L (((v26.getD (⟨0, 0⟩ : Kk))).To) 1)) with a50 | a50
         ·simp [*]
         ·simp [c1, a40, a41, a47, a48, a49, a50] at c28
        ·simp [c1, a40, a41, a47, a48, a49] at c28
       ·simp [c1, a40, a41, a47, a48] at c12
    ·simp [c1, a40] at c12
 ·cases h
  simp only [jn, zn]
  rw [Jm]
  simp [*]) bigN s r h
def Jdm (p0 : Jl) : Option Bool := (J6 (Kn (Jaa p0 p0.Rows (flen p0.Rows)) bigN 0) fun v23 => (match v23 with
 | .inl v23x => some v23x
 | .inr v23x => some true))
theorem Jjz {p0} {r} (h : Jdm p0 = some r) : FC env 15 [.agg [encF Jq p0.Rows]] none = some (.bool r, fun _ => none) := by
 unfold Jdm at h
 obtain ⟨v52, h51, h⟩ := oS h
 have f53 := Jl1 h51
 cases v52 with
 | inl v52x =>
  try simp only at h
  simp only [jn, zn, J5] at f53
  try simp only [Jg, Jh, Jk, Jr, Ju, Jt, Js, Jv] at f53
  cases h
  refine J0 (lf := lf15) rfl rfl rfl ?_
  simp only [lf15, lc15]
  simp [*]
 | inr v52x =>
  try simp only at h
  simp only [jn, zn, J5] at f53
  try simp only [Jg, Jh, Jk, Jr, Ju, Jt, Js, Jv] at f53
  cases h
  refine J0 (lf := lf15) rfl rfl rfl ?_
  simp only [lf15, lc15]
  simp [*]
attribute [simp] c16_0 c16_1
def Jaw (p0 : Ja) : Bool := (band (band (band (ige p0.X (-4096)) (ilt p0.X 4096)) (ige p0.Y (-4096))) (ilt p0.Y 4096))
def t_toolpath_ok (p0 : Ja) : Option Bool := some (Jaw p0)
theorem Joz (p0 : Ja) : FC env 16 [.agg [I L p0.X, I L p0.Y]] none = some (.bool (Jaw p0), fun _ => none) := by
 unfold Jaw
 refine J0 (lf := lf16) rfl rfl rfl ?_
 simp only [lf16, lc16]
 rcases tof (ige p0.X (-4096)) with a1 | a1 <;> rcases tof (ilt p0.X 4096) with a2 | a2 <;> rcases tof (ige p0.Y (-4096)) with a3 | a3 <;> simp [*]
attribute [simp] c35_0 c35_1
def zu (p0 : Ja) : Bool := (band (band (band (ige p0.X (-4096)) (ilt p0.X 4096)) (ige p0.Y (-4096))) (ilt p0.Y 4096))
def t_track_onGrid (p0 : Ja) : Option Bool := some (zu p0)
theorem Joc (p0 : Ja) : FC env 35 [.agg [I L p0.X, I L p0.Y]] none = some (.bool (zu p0), fun _ => none) := by
 unfold zu
 refine J0 (lf := lf35) rfl rfl rfl ?_
 simp only [lf35, lc35]
 rcases tof (ige p0.X (-4096)) with a1 | a1 <;> rcases tof (ilt p0.X 4096) with a2 | a2 <;> rcases tof (ige p0.Y (-4096)) with a3 | a3 <;> simp [*]
attribute [simp] c36_0 c36_1 c36_2
def Q3 (p0 : Ja) (p1 : Ja) : Bool := (ieq (iadd L (imul L (isub L p0.X p1.X) (isub L p0.X p1.X)) (imul L (isub L p0.Y p1.Y) (isub L p0.Y p1.Y))) 1)
def Jzy (p0 : Ja) (p1 : Ja) : Option Bool := some (Q3 p0 p1)
theorem Jg5 (p0 : Ja) (p1 : Ja) : FC env 36 [.agg [I L p0.X, I L p0.Y], .agg [I L p1.X, I L p1.Y]] none = some (.bool (Q3 p0 p1), fun _ => none) := by
 unfold Q3
 refine J0 (lf := lf36) rfl rfl rfl ?_
 simp only [lf36, lc36]
 simp
attribute [simp] c17_0 c17_1 c17_2 c17_3 c17_4 c17_5 c17_6 c17_7 c17_8 c17_9 c17_11
theorem c17_L0_u : EC Γ ps 0 J3l σ = EC Γ ps 0 (.seq (.reg false c17_5) (.seq (.cond (.t 29) .skip (.seq (.trim [1, 3]) (.exit 0))) (.seq (.blk 1 (.seq (.reg false c17_6) (.seq (.reg true c17_7) (.cond (.t 50) (.seq (.reg false c17_8) (.seq (.trim [2]) .ret)) .skip)))) (.reg false c17_9)))) σ := rfl
attribute [simp ↓] c17_L0_u
def Jbu (k0 : Jb) (k1 : Int) (k2 : (FS Ja)) (k3 : Int) (s : Int) : Option (LR Int (Bool ⊕ Unit)) := match s with
 | s0 => (if (ilt s0 k3) = true then (J6 (fget k2 s0) fun v5 => (J6 (gOpt (band (bnot (bnot (zu v5))) (igt s0 0)) (fget k0.Cells (isub L s0 1))) fun v9 => (if (bor (bnot (zu v5)) (band (igt s0 0) (bnot (Q3 (v9.getD (⟨0, 0⟩ : Ja)) v5)))) = true then some (.dn (.inl false))
 else some (.nx (iadd L s0 1)))))
 else some (.dn (.inr ())))
def Jaz (k0 : Jb) (k1 : Int) (k2 : (FS Ja)) (k3 : Int) (s : Int) : St := match s with
 | s0 => ⟨fr [(1, .ptr 1 0 0), (3, I L k1), (26, encF Jf k2), (27, I L k3), (28, I L s0)], hl [(1, .box 0 [I L k0.Role, .bool k0.Closed, encF Jf k0.Cells])]⟩
def Jbs (k0 : Jb) (k1 : Int) (k2 : (FS Ja)) (k3 : Int) (x : (Bool ⊕ Unit)) : LE × St := match x with
 | .inl x => (.ret, ⟨fr [(2, .bool x)], hl []⟩)
 | .inr x => (.exit 0, ⟨fr [(1, .ptr 1 0 0), (3, I L k1)], hl [(1, .box 0 [I L k0.Role, .bool k0.Closed, encF Jf k0.Cells])]⟩)
theorem Jms {k0} {k1} {k2} {k3} {s} {r} (h : Kn (Jbu k0 k1 k2 k3) bigN s = some r) : LK env [] 0 [1, 3, 26, 27, 28] J3l (some (Jaz k0 k1 k2 k3 s)) = some (Jbs k0 k1 k2 k3 r) := Kh (st := Jaz k0 k1 k2 k3) (out := Jbs k0 k1 k2 k3) (by
 clear h s r
 rintro s0 x h
 simp only [Jbu] at h
 rcases ifC h with ⟨c6, h⟩ | ⟨c6, h⟩
 ·obtain ⟨v9, h8, h⟩ := oS h
  have f7 := Kf (e := Jf) h8
  have f10 := Joc v9
  obtain ⟨v13, h12, h⟩ := oS h
  have f11 := fun (q0 : (bnot (zu v9)) = false) (q1 : (igt s0 0) = true) => Kf (e := Jf) (Qp (⟨0, 0⟩ : Ja) h12 (Jog (Jeb q0) q1))
  have f14 := Jg5 (v13.getD (⟨0, 0⟩ : Ja)) v9
  rcases ifC h with ⟨c15, h⟩ | ⟨c15, h⟩
  ·cases h
   simp only [Jaz, Jbs]
   rw [Jm]
   rcases tof (zu v9) with a16 | a16 <;> rcases tof (igt s0 0) with a17 | a17 <;> rcases tof (Q3 (v13.getD (⟨0, 0⟩ : Ja)) v9) with a18 | a18 <;> (try (simp [c6, a16, a17, a18] at c15; done)) <;> simp [*]
  ·cases h
   simp only [Jaz]
   rw [Jm]
   rcases tof (zu v9) with a19 | a19 <;> rcases tof (igt s0 0) with a20 | a20 <;> rcases tof (Q3 (v13.getD (⟨0, 0⟩ : Ja)) v9) with a21 | a21 <;> (try (simp [c6, a19, a20, a21] at c15; done)) <;> simp [*]
 ·cases h
  simp only [Jaz, Jbs]
  rw [Jm]
  simp [*]) bigN s r h
def Jcr (p0 : Jb) : Option Bool := (if (bor (bor (bor (ilt p0.Role 1) (igt p0.Role 7)) (ilt (flen p0.Cells) 1)) (igt (flen p0.Cells) 65536)) = true then some false
 else (J6 (Kn (Jbu p0 (flen p0.Cells) p0.Cells (flen p0.Cells)) bigN 0) fun v13 => (match v13 with
 | .inl v13x => some v13x
 | .inr v13x => (J6 (gOpt (bnot (bor (bnot p0.Closed) (ieq (flen p0.Cells) 1))) (fget p0.Cells (isub L (flen p0.Cells) 1))) fun v17 => (J6 (gOpt (bnot (bor (bnot p0.Closed) (ieq (flen p0.Cells) 1))) (fget p0.Cells 0)) fun v20 => some (bor (bor (bnot p0.Closed) (ieq (flen p0.Cells) 1)) (Q3 (v17.getD (⟨0, 0⟩ : Ja)) (v20.getD (⟨0, 0⟩ : Ja)))))))))
theorem Jd6 {p0} {r} (h : Jcr p0 = some r) : FC env 17 [.agg [I L p0.Role, .bool p0.Closed, encF Jf p0.Cells]] none = some (.bool r, fun _ => none) := by
 unfold Jcr at h
 rcases ifC h with ⟨c1, h⟩ | ⟨c1, h⟩
 ·cases h
  refine J0 (lf := lf17) rfl rfl rfl ?_
  simp only [lf17, lc17]
  rcases tof (ilt p0.Role 1) with a2 | a2 <;> rcases tof (igt p0.Role 7) with a3 | a3 <;> rcases tof (ilt (flen p0.Cells) 1) with a4 | a4 <;> rcases tof (igt (flen p0.Cells) 65536) with a5 | a5 <;> (try (simp [a2, a3, a4, a5] at c1; done)) <;> simp [*]
 ·obtain ⟨v23, h22, h⟩ := oS h
  have f24 := Jms h22
  cases v23 with
  | inl v23x =>
   try simp only at h
   simp only [Jaz, Jbs, J5] at f24
   try simp only [Jg, Jh, Jk, Jr, Ju, Jt, Js, Jv] at f24
   cases h
   refine J0 (lf := lf17) rfl rfl rfl ?_
   simp only [lf17, lc17]
   rcases tof (ilt p0.Role 1) with a26 | a26 <;> rcases tof (igt p0.Role 7) with a27 | a27 <;> rcases tof (ilt (flen p0.Cells) 1) with a28 | a28 <;> rcases tof (igt (flen p0.Cells) 65536) with a29 | a29 <;> (try (simp [a26, a27, a28, a29] at c1; done)) <;> (try simp only [a26, a27, a28, a29] at f24) <;> simp [*]
  | inr v23x =>
   try simp only at h
   simp only [Jaz, Jbs, J5] at f24
   try simp only [Jg, Jh, Jk, Jr, Ju, Jt, Js, Jv] at f24
   obtain ⟨v33, h32, h⟩ := oS h
   have f31 := fun (q0 : (bor (bnot p0.Closed) (ieq (flen p0.Cells) 1)) = false) => Kf (e := Jf) (Qp (⟨0, 0⟩ : Ja) h32 (Jeb q0))
   obtain ⟨v36, h35, h⟩ := oS h
   have f34 := fun (q0 : (bor (bnot p0.Closed) (ieq (flen p0.Cells) 1)) = false) => Kf (e := Jf) (Qp (⟨0, 0⟩ : Ja) h35 (Jeb q0))
   have f37 := Jg5 (v33.getD (⟨0, 0⟩ : Ja)) (v36.getD (⟨0, 0⟩ : Ja))
   cases h
   refine J0 (lf := lf17) rfl rfl rfl ?_
   simp only [lf17, lc17]
   rcases tof (ilt p0.Role 1) with a38 | a38
   ·simp [a38] at c1
   ·rcases tof (igt p0.Role 7) with a39 | a39
    ·simp [a38, a39] at c1
    ·rcases tof (ilt (flen p0.Cells) 1) with a40 | a40
     ·simp [a38, a39, a40] at c1
     ·rcases tof (igt (flen p0.Cells) 65536) with a41 | a41
      ·simp [a38, a39, a40, a41] at c1
      ·rcases tof p0.Closed with a42 | a42
       ·rcases tof (ieq (flen p0.Cells) 1) with a43 | a43
        ·try simp only [a42] at f24 f31 f34 f37
         try simp only [a38, a39, a40, a41, a42, a43] at f24
         simp [*]
        ·try simp only [a42] at f24 f31 f34 f37
         try simp only [a38, a39, a40, a41, a42, a43] at f24
         simp [*]
       ·try simp only [a42] at f24 f31 f34 f37
        try simp only [a38, a39, a40, a41, a42] at f24
        simp [*]
attribute [simp] c18_0 c18_1
def J3 (p0 : Jo) (p1 : J1) : Option Jo := (if fits 64 ((flen p0.list.ops) + 1) = true then some (⟨(⟨(Yy p0.list.ops p1)⟩ : Km), p0.r, p0.s, p0.nozzle⟩ : Jo) else none)
theorem Kx {p0 : Jo} {p1 : J1} (e000 : p0.list.ops = FS.nil) {r} (h : J3 p0 p1 = some r) : FC env 18 [.ptr 0 0 0, .agg [I L p1.Kind, I L p1.Role, I L p1.Layer, I L p1.Z, I L p1.Speed, encF Jf p1.Cells]] (some (hl [(0, .box 0 [.nils, encF Jq p0.r.Rows, I L p0.s.Pitch, I L p0.s.Height, I L p0.s.Walls, I L p0.s.Top, I L p0.s.Bottom, I L p0.s.Pattern, I L p0.s.Spacing, .bool p0.s.Support, I L p0.s.Reach, I L p0.s.Gap, I L p0.s.Brim, I L p0.s.Skirt, I L p0.s.Drop, I L p0.s.Feed, I L p0.s.Travel, I L p0.s.Retract, I L p0.s.MinTime, I L p0.s.MinFeed, I L p0.s.Nozzle, I L p0.s.Bed, I L p0.nozzle.X, I L p0.nozzle.Y])], 0)) = some (.tup [], hl [(0, .box 0 [.arr 1000000 0 0 r.list.ops.l.length, encF Jq r.r.Rows, I L r.s.Pitch, I L r.s.Height, I L r.s.Walls, I L r.s.Top, I L r.s.Bottom, I L r.s.Pattern, I L r.s.Spacing, .bool r.s.Support, I L r.s.Reach, I L r.s.Gap, I L r.s.Brim, I L r.s.Skirt, I L r.s.Drop, I L r.s.Feed, I L r.s.Travel, I L r.s.Retract, I L r.s.MinTime, I L r.s.MinFeed, I L r.s.Nozzle, I L r.s.Bed, I L r.nozzle.X, I L r.nozzle.Y]), (1000000, .arr 0 6 52 (Jn Jw r.list.ops.l) false)]) ∧ ∃ l, r.list.ops = FS.lst l := by
 unfold J3 at h
 simp only [e000, Jx] at h
 obtain ⟨h2, h⟩ := ifS h
 have f1 := fun H g0 hg y => @Jdk _ _ Jw _ p1 64 h2 (by decide) H g0 52 y hg
 simp only [Jw] at f1
 cases h
 refine ⟨?_, by first | exact ⟨_, rfl⟩ | exact ⟨_, by assumption⟩⟩
 refine Jav (lf := lf18) rfl rfl rfl ?_
 simp only [lf18, lc18]
 simp [*]
theorem J4 {p0 : Jo} {p1 : J1} {le000 : List J1} (e000 : p0.list.ops = FS.lst le000) {r} (h : J3 p0 p1 = some r) : FC env 18 [.ptr 0 0 0, .agg [I L p1.Kind, I L p1.Role, I L p1.Layer, I L p1.Z, I L p1.Speed, encF Jf p1.Cells]] (some (hl [(0, .box 0 [.arr 1000000 0 0 p0.list.ops.l.length, encF Jq p0.r.Rows, I L p0.s.Pitch, I L p0.s.Height, I L p0.s.Walls, I L p0.s.Top, I L p0.s.Bottom, I L p0.s.Pattern, I L p0.s.Spacing, .bool p0.s.Support, I L p0.s.Reach, I L p0.s.Gap, I L p0.s.Brim, I L p0.s.Skirt, I L p0.s.Drop, I L p0.s.Feed, I L p0.s.Travel, I L p0.s.Retract, I L p0.s.MinTime, I L p0.s.MinFeed, I L p0.s.Nozzle, I L p0.s.Bed, I L p0.nozzle.X, I L p0.nozzle.Y]), (1000000, .arr 0 6 52 (Jn Jw p0.list.ops.l) false)], 0)) = some (.tup [], hl [(0, .box 0 [.arr 1000000 0 0 r.list.ops.l.length, encF Jq r.r.Rows, I L r.s.Pitch, I L r.s.Height, I L r.s.Walls, I L r.s.Top, I L r.s.Bottom, I L r.s.Pattern, I L r.s.Spacing, .bool r.s.Support, I L r.s.Reach, I L r.s.Gap, I L r.s.Brim, I L r.s.Skirt, I L r.s.Drop, I L r.s.Feed, I L r.s.Travel, I L r.s.Retract, I L r.s.MinTime, I L r.s.MinFeed, I L r.s.Nozzle, I L r.s.Bed, I L r.nozzle.X, I L r.nozzle.Y]), (1000000, .arr 0 6 52 (Jn Jw r.list.ops.l) false)]) ∧ ∃ l, r.list.ops = FS.lst l := by
 unfold J3 at h
 simp only [e000, Jx] at h
 obtain ⟨h2, h⟩ := ifS h
 have f1 := fun g0 H y => @Y3 _ _ Jw _ (FS.lst le000) p1 64 h2 (by decide) g0 H 1000000 0 52 y
 simp only [Jw] at f1
 cases h
 refine ⟨?_, by first | exact ⟨_, rfl⟩ | exact ⟨_, by assumption⟩⟩
 refine Jav (lf := lf18) rfl rfl rfl ?_
 simp only [lf18, lc18]
 simp [*]
attribute [simp] c61_0 c61_1
def Xj (p0 : Ja) : Bool := (band (band (band (ige p0.X (-4096)) (ilt p0.X 4096)) (ige p0.Y (-4096))) (ilt p0.Y 4096))
def t_order_onGrid (p0 : Ja) : Option Bool := some (Xj p0)
theorem Jju (p0 : Ja) : FC env 61 [.agg [I L p0.X, I L p0.Y]] none = some (.bool (Xj p0), fun _ => none) := by
 unfold Xj
 refine J0 (lf := lf61) rfl rfl rfl ?_
 simp only [lf61, lc61]
 rcases tof (ige p0.X (-4096)) with a1 | a1 <;> rcases tof (ilt p0.X 4096) with a2 | a2 <;> rcases tof (ige p0.Y (-4096)) with a3 | a3 <;> simp [*]
attribute [simp] c84_0 c84_1
def Jfa (p0 : Jb) : Option Jb := (if fits 16 ((flen (flit ([] : List Ja))) + (flen p0.Cells)) = true then some (⟨p0.Role, p0.Closed, (fapp (flit ([] : List Ja)) p0.Cells)⟩ : Jb) else none)
theorem Jj0 {p0} {r} (h : Jfa p0 = some r) : FC env 84 [.agg [I L p0.Role, .bool p0.Closed, encF Jf p0.Cells]] none = some (.agg [I L r.Role, .bool r.Closed, encF Jf r.Cells], fun _ => none) := by
 unfold Jfa at h
 have f1 : ∀ (H : Heap) (g0 : Nat), bslV H g0 0 2 27 (some []) = some (.arr g0 (Kj H g0) 0 (flit ([] : List Ja)).l.length, upd H g0 (some (.arr (Kj H g0) 2 27 (Jn Jf (flit ([] : List Ja)).l) false))) := fun H g0 => rfl
 obtain ⟨h3, h⟩ := ifS h
 have f2 := fun g0 H => @Jar _ _ Jf _ (flit ([] : List Ja)) p0.Cells 16 h3 (by decide) g0 H 7 0 27
 cases h
 refine J0 (lf := lf84) rfl rfl rfl ?_
 simp only [lf84, lc84]
 simp [*, Kq (e := Jf) (el := 27) (fz := false)]
attribute [simp] c62_0 c62_1 c62_2 c62_3 c62_4 c62_5 c62_6 c62_7 c62_9
theorem c62_L0_u : EC Γ ps 0 J89 σ = EC Γ ps 0 (.seq (.reg false c62_3) (.seq (.cond (.t 9) .skip (.seq (.trim [3]) (.exit 0))) (.seq (.blk 1 (.seq (.reg false c62_4) (.seq (.reg false c62_5) (.cond (.t 13) (.reg false c62_6) .skip)))) (.reg false c62_7)))) σ := rfl
attribute [simp ↓] c62_L0_u
def Jdb (k0 : (FS Jb)) (k1 : Int) (s : ((FS Jb) × Int)) : Option (LR ((FS Jb) × Int) (FS Jb)) := match s with
 | (s0, s1) => (if (ilt s1 k1) = true then (J6 (fget k0 s1) fun v4 => (J6 (Jcr v4) fun v7 => (if v7 = true then (J6 (Jfa v4) fun v11 => (if fits 40 ((flen s0) + 1) = true then some (.nx ((Yy s0 v11), (iadd L s1 1))) else none))
 else some (.nx (s0, (iadd L s1 1))))))
 else some (.dn s0))
def Z4 (k0 : (FS Jb)) (k1 : Int) (s : ((FS Jb) × Int)) : St := match s with
 | (s0, s1) => (Jat s0 (⟨fr [(3, .nils), (6, encF Jc k0), (7, I L k1), (8, I L s1)], hl []⟩)
  (fun l0 => ⟨fr [(3, .arr 3 0 0 l0.l.length), (6, encF Jc k0), (7, I L k1), (8, I L s1)], hl [(3, .arr 0 3 42 (Jn Jc l0.l) false)]⟩))
def Jco (k0 : (FS Jb)) (k1 : Int) (x : (FS Jb)) : LE × St := (Jat x (.exit 0, ⟨fr [(3, .nils)], hl []⟩)
  (fun l0 => (.exit 0, ⟨fr [(3, .arr 3 0 0 l0.l.length)], hl [(3, .arr 0 3 42 (Jn Jc l0.l) false)]⟩)))
theorem Jmk {k0} {k1} {s} {r} (h : Kn (Jdb k0 k1) bigN s = some r) : LK env [] 0 [3, 6, 7, 8] J89 (some (Z4 k0 k1 s)) = some (Jco k0 k1 r) := Kh (st := Z4 k0 k1) (out := Jco k0 k1) (by
 clear h s r
 rintro ⟨s0, s1⟩ x h
 simp only [Jdb] at h
 cases e2 : s0 with
 | nil =>
  try simp only [e2, Jx] at h
  rcases ifC h with ⟨c3, h⟩ | ⟨c3, h⟩
  ·obtain ⟨v6, h5, h⟩ := oS h
   have f4 := Kf (e := Jc) h5
   obtain ⟨v9, h8, h⟩ := oS h
   have f7 := Jd6 h8
   rcases ifC h with ⟨c10, h⟩ | ⟨c10, h⟩
   ·obtain ⟨v13, h12, h⟩ := oS h
    have f11 := Jj0 h12
    obtain ⟨h15, h⟩ := ifS h
    have f14 := fun H g0 hg y => @Jdk _ _ Jc _ v13 40 h15 (by decide) H g0 42 y hg
    simp only [Jc] at f14
    cases h
    simp only [Z4, e2]
    rw [Jm]
    simp [*]
   ·cases h
    simp only [Z4, e2]
    rw [Jm]
    simp [*]
  ·cases h
   simp only [Z4, Jco, e2]
   rw [Jm]
   simp [*]
 | lst l1 =>
  try simp only [e2] at h
  rcases ifC h with ⟨c16, h⟩ | ⟨c16, h⟩
  ·obtain ⟨v19, h18, h⟩ := oS h
   have f17 := Kf (e := Jc) h18
   obtain ⟨v22, h21, h⟩ := oS h
   have f20 := Jd6 h21
   rcases ifC h with ⟨c23, h⟩ | ⟨c23, h⟩
   ·obtain ⟨v26, h25, h⟩ := oS h
    have f24 := Jj0 h25
    obtain ⟨h28, h⟩ := ifS h
    have f27 := fun g0 H y => @Y3 _ _ Jc _ (FS.lst l1) v26 40 h28 (by decide) g0 H 3 0 42 y
    simp only [Jc] at f27
    cases h
    simp only [Z4, e2]
    rw [Jm]
    simp [*]
   ·cases h
    simp only [Z4, e2]
    rw [Jm]
    simp [*]
  ·cases h
   simp only [Z4, Jco, e2]
   rw [Jm]
   simp [*]) bigN s r h
def Jey (p0 : (FS Jb)) : Option (FS Jb) := (J6 (Kn (Jdb p0 (flen p0)) bigN ((FS.nil : (FS Jb)), 0)) fun v15 => some v15)
theorem Jkt {p0} {r} (h : Jey p0 = some r) : FC env 62 [encF Jc p0] (some (hl [], 0)) = (Jat r (some (.nils, hl []))
  (fun l0 => (some (.arr 700000 0 0 l0.l.length, hl [(700000, .arr 0 3 42 (Jn Jc l0.l) false)])))) := by
 unfold Jey at h
 obtain ⟨v30, h29, h⟩ := oS h
 have f31 := Jmk h29
 simp only [Z4, Jco, J5] at f31
 cases e34 : v30 with
 | nil =>
  try simp only [e34, Jx] at h
  simp only [e34, Jx, Jg, Jh] at f31
  cases h
  refine Jav (lf := lf62) rfl rfl rfl ?_
  simp only [lf62, lc62]
  simp [*]
  all_goals first | rfl | exact ⟨rfl, rfl⟩
 | lst l33 =>
  try simp only [e34] at h
  simp only [e34, Jx, Jg, Jh] at f31
  cases h
  refine Jav (lf := lf62) rfl rfl rfl ?_
  simp only [lf62, lc62]
  simp [*]
  all_goals first | rfl | exact ⟨rfl, rfl⟩
attribute [simp] c86_0 c86_1
def J9 (p0 : Ja) (p1 : Ja) : Int := (iadd L (imax (isub L p0.X p1.X) (isub L p1.X p0.X)) (imax (isub L p0.Y p1.Y) (isub L p1.Y p0.Y)))
def t_order_far (p0 : Ja) (p1 : Ja) : Option Int := some (J9 p0 p1)
theorem jj (p0 : Ja) (p1 : Ja) : FC env 86 [.agg [I L p0.X, I L p0.Y], .agg [I L p1.X, I L p1.Y]] none = some (I L (J9 p0 p1), fun _ => none) := by
 unfold J9
 refine J0 (lf := lf86) rfl rfl rfl ?_
 simp only [lf86, lc86]
 simp
attribute [simp] c68_0 c68_1
def Jde (p0 : Jb) : Option (A2 Ja) := (J6 (fget p0.Cells 0) fun v3 => (J6 (fget p0.Cells (isub L (flen p0.Cells) 1)) fun v6 => some (⟨v3, v6⟩ : (A2 Ja))))
theorem jg {p0} {r} (h : Jde p0 = some r) : FC env 68 [.agg [I L p0.Role, .bool p0.Closed, encF Jf p0.Cells]] none = some (.agg [I L r.a0.X, I L r.a0.Y, I L r.a1.X, I L r.a1.Y], fun _ => none) := by
 unfold Jde at h
 obtain ⟨v3, h2, h⟩ := oS h
 have f1 := Kf (e := Jf) h2
 obtain ⟨v6, h5, h⟩ := oS h
 have f4 := Kf (e := Jf) h5
 cases h
 refine J0 (lf := lf68) rfl rfl rfl ?_
 simp only [lf68, lc68]
 simp [*]
attribute [simp] c66_0 c66_1 c66_2 c66_3 c66_4 c66_5 c66_6 c66_7 c66_8 c66_9 J21 J26 J5u J1l c66_15
theorem c66_L0_u : EC Γ ps 0 J8m σ = EC Γ ps 0 (.seq (.reg false c66_8) (.seq (.cond (.t 28) .skip (.seq (.trim [8, 9]) (.exit 0))) (.seq (.blk 1 (.seq (.reg false c66_9) (.seq (.reg false J21) (.seq (.reg false J26) (.cond (.t 37) (.reg false J5u) .skip))))) (.reg false J1l)))) σ := rfl
attribute [simp ↓] c66_L0_u
def Jbe (k0 : Ja) (k1 : (FS Ja)) (k2 : Int) (s : (Int × Int × Int)) : Option (LR (Int × Int × Int) (Int × Int)) := match s with
 | (s0, s1, s2) => (if (ilt s2 k2) = true then (J6 (fget k1 s2) fun v9 => (if (ilt (J9 k0 v9) s1) = true then some (.nx (s2, (J9 k0 v9), (iadd L s2 1)))
 else some (.nx (s0, s1, (iadd L s2 1)))))
 else some (.dn (s0, s1)))
def Jbn (k0 : Ja) (k1 : (FS Ja)) (k2 : Int) (s : (Int × Int × Int)) : St := match s with
 | (s0, s1, s2) => ⟨fr [(2, .ptr 2 0 0), (8, I L s0), (9, I L s1), (25, encF Jf k1), (26, I L k2), (27, I L s2)], hl [(2, .box 0 [I L k0.X, I L k0.Y])]⟩
def Jc1 (k0 : Ja) (k1 : (FS Ja)) (k2 : Int) (x : (Int × Int)) : LE × St := (.exit 0, ⟨fr [(8, I L x.1), (9, I L x.2)], hl []⟩)
theorem Ji0 {k0} {k1} {k2} {s} {r} (h : Kn (Jbe k0 k1 k2) bigN s = some r) : LK env [] 0 [2, 8, 9, 25, 26, 27] J8m (some (Jbn k0 k1 k2 s)) = some (Jc1 k0 k1 k2 r) := Kh (st := Jbn k0 k1 k2) (out := Jc1 k0 k1 k2) (by
 clear h s r
 rintro ⟨s0, s1, s2⟩ x h
 simp only [Jbe] at h
 rcases ifC h with ⟨c6, h⟩ | ⟨c6, h⟩
 ·obtain ⟨v9, h8, h⟩ := oS h
  have f7 := Kf (e := Jf) h8
  have f10 := jj k0 v9
  rcases ifC h with ⟨c11, h⟩ | ⟨c11, h⟩
  ·cases h
   simp only [Jbn]
   rw [Jm]
   simp [*]
  ·cases h
   simp only [Jbn]
   rw [Jm]
   simp [*]
 ·cases h
  simp only [Jbn, Jc1]
  rw [Jm]
  simp [*]) bigN s r h
def Jfo (p0 : Ja) (p1 : Jb) : Option (Int × Int) := (if p1.Closed = true then (J6 (fget p1.Cells 0) fun v4 => (J6 (Kn (Jbe p0 p1.Cells (flen p1.Cells)) bigN (0, (J9 p0 v4), 0)) fun v13 => some (v13.1, v13.2)))
 else (J6 (Jde p1) fun v17 => (J6 (fget (flit ([v17.a0, v17.a1] : List Ja)) 0) fun v21 => (J6 (Kn (Jbe p0 (flit ([v17.a0, v17.a1] : List Ja)) (flen (flit ([v17.a0, v17.a1] : List Ja)))) bigN (0, (J9 p0 v21), 0)) fun v24 => some (v24.1, v24.2)))))
theorem Jk2 {p0} {p1} {r} (h : Jfo p0 p1 = some r) : FC env 66 [.agg [I L p0.X, I L p0.Y], .agg [I L p1.Role, .bool p1.Closed, encF Jf p1.Cells]] none = some (.tup [I L r.1, I L r.2], fun _ => none) := by
 unfold Jfo at h
 rcases ifC h with ⟨c1, h⟩ | ⟨c1, h⟩
 ·obtain ⟨v4, h3, h⟩ := oS h
  have f2 := Kf (e := Jf) h3
  have f5 := jj p0 v4
  obtain ⟨v13, h12, h⟩ := oS h
  have f14 := Ji0 h12
  simp only [Jbn, Jc1, J5] at f14
  try simp only [Jg, Jh, Jk, Jr, Ju, Jt, Js, Jv] at f14
  cases h
  refine J0 (lf := lf66) rfl rfl rfl ?_
  simp only [lf66, lc66]
  try simp only [c1] at f2 f5 f14
  try simp only [c1] at f14
  simp [*, Q4, tupS, Qm, K5, Qo, K4, Qq]
 ·obtain ⟨v18, h17, h⟩ := oS h
  have f16 := jg h17
  have f19 : ∀ (H : Heap) (g v : Nat), H g = some (.arr v 2 106 [I L v18.a0.X, I L v18.a0.Y, I L v18.a1.X, I L v18.a1.Y] false) → snap H depth (.arr g v 0 2) = some (encF Jf (flit ([v18.a0, v18.a1] : List Ja)), [g]) := fun H g v hg => Kq (e := Jf) (x := (flit ([v18.a0, v18.a1] : List Ja))) hg
  obtain ⟨v22, h21, h⟩ := oS h
  have f20 := Kf (e := Jf) h21
  have f23 := jj p0 v22
  obtain ⟨v25, h24, h⟩ := oS h
  have f26 := Ji0 h24
  simp only [Jbn, Jc1, J5] at f26
  try simp only [Jg, Jh, Jk, Jr, Ju, Jt, Js, Jv] at f26
  cases h
  refine J0 (lf := lf66) rfl rfl rfl ?_
  simp only [lf66, lc66]
  try simp only [c1] at f16 f19 f20 f23 f26
  try simp only [c1] at f26
  simp [*, Q4, tupS, Qm, K5, Qo, K4, Qq]
attribute [simp] c95_0 c95_1
def ju (p0 : (FS Ja)) (p1 : Int) : Option (FS Ja) := (J6 (fsl p0 p1 (flen p0)) fun v3 => (J6 (fsl p0 0 p1) fun v6 => (if mkOK 16 0 (flen p0) = true then (if fits 16 ((flen (frep (⟨0, 0⟩ : Ja) 0)) + (flen v3)) = true then (if fits 16 ((flen (fapp (frep (⟨0, 0⟩ : Ja) 0) v3)) + (flen v6)) = true then some (fapp (fapp (frep (⟨0, 0⟩ : Ja) 0) v3) v6) else none) else none) else none)))
theorem Jev {p0} {p1} {r} (h : ju p0 p1 = some r) : FC env 95 [encF Jf p0, I L p1] none = some (encF Jf r, fun _ => none) := by
 unfold ju at h
 obtain ⟨v3, h2, h⟩ := oS h
 have f1 := Jer (e := Jf) h2
 obtain ⟨v6, h5, h⟩ := oS h
 have f4 := Jk8 (e := Jf) h5
 obtain ⟨h8, h⟩ := ifS h
 have f7 := fun H g0 hg => @mk_row _ _ Jf _ (⟨0, 0⟩ : Ja) 16 _ _ h8 H g0 hg 27
 simp only [Jf] at f7
 obtain ⟨h10, h⟩ := ifS h
 have f9 := fun g0 H => @Jar _ _ Jf _ (frep (⟨0, 0⟩ : Ja) 0) v3 16 h10 (by decide) g0 H 7 0 27
 obtain ⟨h12, h⟩ := ifS h
 have f11 := fun g0 H => @Jar _ _ Jf _ (fapp (frep (⟨0, 0⟩ : Ja) 0) v3) v6 16 h12 (by decide) g0 H 7 (bump 0 (flen v3)) 27
 cases h
 refine J0 (lf := lf95) rfl rfl rfl ?_
 simp only [lf95, lc95]
 simp [*, Kq (e := Jf) (el := 27) (fz := false)]
attribute [simp] c89_0 c89_1 c89_2 c89_3 c89_4 c89_5 c89_6 c89_7
def Jfb (p0 : Jb) (p1 : Int) : Option Jb := (J6 (Jcr p0) fun v3 => (if (bnot v3) = true then some (⟨0, false, (FS.nil : (FS Ja))⟩ : Jb)
 else (if p0.Closed = true then (if ieq (flen p0.Cells) 0 = true then none else (if ieq (flen p0.Cells) 0 = true then none else (J6 (ju p0.Cells (irem (iadd L (irem p1 (flen p0.Cells)) (flen p0.Cells)) (flen p0.Cells))) fun v10 => some (⟨p0.Role, p0.Closed, v10⟩ : Jb))))
 else (J6 (ju p0.Cells 0) fun v13 => some (⟨p0.Role, p0.Closed, v13⟩ : Jb)))))
theorem Joe {p0} {p1} {r} (h : Jfb p0 p1 = some r) : FC env 89 [.agg [I L p0.Role, .bool p0.Closed, encF Jf p0.Cells], I L p1] none = some (.agg [I L r.Role, .bool r.Closed, encF Jf r.Cells], fun _ => none) := by
 unfold Jfb at h
 obtain ⟨v3, h2, h⟩ := oS h
 have f1 := Jd6 h2
 rcases ifC h with ⟨c4, h⟩ | ⟨c4, h⟩
 ·cases h
  refine J0 (lf := lf89) rfl rfl rfl ?_
  simp only [lf89, lc89]
  rcases tof v3 with a5 | a5
  ·simp [a5] at c4
  ·simp [*]
 ·rcases ifC h with ⟨c6, h⟩ | ⟨c6, h⟩
  ·obtain ⟨h7, h⟩ := ifN h
   obtain ⟨h8, h⟩ := ifN h
   obtain ⟨v11, h10, h⟩ := oS h
   have f9 := Jev h10
   cases h
   refine J0 (lf := lf89) rfl rfl rfl ?_
   simp only [lf89, lc89]
   rcases tof v3 with a12 | a12
   ·try simp only [c6] at f1 f9
    simp [*]
   ·simp [a12] at c4
  ·obtain ⟨v15, h14, h⟩ := oS h
   have f13 := Jev h14
   cases h
   refine J0 (lf := lf89) rfl rfl rfl ?_
   simp only [lf89, lc89]
   rcases tof v3 with a16 | a16
   ·try simp only [c6] at f1 f13
    simp [*]
   ·simp [a16] at c4
attribute [simp] c88_0 c88_1 c88_2 c88_3 c88_4 c88_5 c88_7
theorem c88_L0_u : EC Γ ps 0 J0w σ = EC Γ ps 0 (.seq (.seq (.reg false c88_3) (.cond (.t 12) .skip (.seq (.trim [3]) (.exit 0)))) (.seq (.blk 1 (.reg false c88_4)) (.reg false c88_5))) σ := rfl
attribute [simp ↓] c88_L0_u
def Ys (k0 : (FS Ja)) (s : ((FS Ja) × Int)) : Option (LR ((FS Ja) × Int) (FS Ja)) := match s with
 | (s0, s1) => (if (ige s1 0) = true then (J6 (fget k0 s1) fun v6 => (if fits 16 ((flen s0) + 1) = true then some (.nx ((Yy s0 v6), (isub L s1 1))) else none))
 else some (.dn s0))
def Y9 (k0 : (FS Ja)) (s : ((FS Ja) × Int)) : St := match s with
 | (s0, s1) => ⟨fr [(0, encF Jf k0), (3, .arr 3 0 0 s0.l.length), (4, I L s1)], hl [(3, .arr 0 2 27 (Jn Jf s0.l) false)]⟩
def za (k0 : (FS Ja)) (x : (FS Ja)) : LE × St := (.exit 0, ⟨fr [(3, .arr 3 0 0 x.l.length)], hl [(3, .arr 0 2 27 (Jn Jf x.l) false)]⟩)
theorem Jgb {k0} {s} {r} (h : Kn (Ys k0) bigN s = some r) : LK env [] 0 [0, 3, 4] J0w (some (Y9 k0 s)) = some (za k0 r) := Kh (st := Y9 k0) (out := za k0) (by
 clear h s r
 rintro ⟨s0, s1⟩ x h
 simp only [Ys] at h
 rcases ifC h with ⟨c3, h⟩ | ⟨c3, h⟩
 ·obtain ⟨v6, h5, h⟩ := oS h
  have f4 := Kf (e := Jf) h5
  obtain ⟨h8, h⟩ := ifS h
  have f7 := fun g0 H y => @Y3 _ _ Jf _ s0 v6 16 h8 (by decide) g0 H 3 0 27 y
  simp only [Jf] at f7
  cases h
  simp only [Y9]
  rw [Jm]
  simp [*]
 ·cases h
  simp only [Y9, za]
  rw [Jm]
  simp [*]) bigN s r h
def Jaq (p0 : (FS Ja)) : Option (FS Ja) := (if mkOK 16 0 (flen p0) = true then (J6 (Kn (Ys p0) bigN ((frep (⟨0, 0⟩ : Ja) 0), (isub L (flen p0) 1))) fun v10 => some (flst v10)) else none)
theorem Jho {p0} {r} (h : Jaq p0 = some r) : FC env 88 [encF Jf p0] none = some (encF Jf r, fun _ => none) := by
 unfold Jaq at h
 obtain ⟨h2, h⟩ := ifS h
 have f1 := fun H g0 hg => @mk_row _ _ Jf _ (⟨0, 0⟩ : Ja) 16 _ _ h2 H g0 hg 27
 simp only [Jf] at f1
 obtain ⟨v10, h9, h⟩ := oS h
 have f11 := Jgb h9
 simp only [Y9, za, J5] at f11
 try simp only [Jg, Jh, Jk, Jr, Ju, Jt, Js, Jv] at f11
 cases h
 refine J0 (lf := lf88) rfl rfl rfl ?_
 simp only [lf88, lc88]
 simp [*, Kq (e := Jf) (el := 27) (fz := false)]
attribute [simp] c65_0 c65_1 c65_2 c65_3
def Jdv (p0 : Jb) : Option Jb := (J6 (Jcr p0) fun v3 => (if (bnot v3) = true then some (⟨0, false, (FS.nil : (FS Ja))⟩ : Jb)
 else (J6 (Jaq p0.Cells) fun v7 => some (⟨p0.Role, p0.Closed, v7⟩ : Jb))))
theorem Jiv {p0} {r} (h : Jdv p0 = some r) : FC env 65 [.agg [I L p0.Role, .bool p0.Closed, encF Jf p0.Cells]] none = some (.agg [I L r.Role, .bool r.Closed, encF Jf r.Cells], fun _ => none) := by
 unfold Jdv at h
 obtain ⟨v3, h2, h⟩ := oS h
 have f1 := Jd6 h2
 rcases ifC h with ⟨c4, h⟩ | ⟨c4, h⟩
 ·cases h
  refine J0 (lf := lf65) rfl rfl rfl ?_
  simp only [lf65, lc65]
  rcases tof v3 with a5 | a5
  ·simp [a5] at c4
  ·simp [*]
 ·obtain ⟨v8, h7, h⟩ := oS h
  have f6 := Jho h7
  cases h
  refine J0 (lf := lf65) rfl rfl rfl ?_
  simp only [lf65, lc65]
  rcases tof v3 with a9 | a9
  ·simp [*]
  ·simp [a9] at c4
attribute [simp] c67_0 c67_1 c67_2 c67_3 c67_4 c67_5
def Jeq (p0 : Jb) (p1 : Int) : Option Jb := (if p0.Closed = true then (J6 (Jfb p0 p1) fun v4 => some v4)
 else (if (ieq p1 1) = true then (J6 (Jdv p0) fun v8 => some v8)
 else some p0))
theorem Jef {p0} {p1} {r} (h : Jeq p0 p1 = some r) : FC env 67 [.agg [I L p0.Role, .bool p0.Closed, encF Jf p0.Cells], I L p1] none = some (.agg [I L r.Role, .bool r.Closed, encF Jf r.Cells], fun _ => none) := by
 unfold Jeq at h
 rcases ifC h with ⟨c1, h⟩ | ⟨c1, h⟩
 ·obtain ⟨v4, h3, h⟩ := oS h
  have f2 := Joe h3
  cases h
  refine J0 (lf := lf67) rfl rfl rfl ?_
  simp only [lf67, lc67]
  try simp only [c1] at f2
  simp [*]
 ·rcases ifC h with ⟨c5, h⟩ | ⟨c5, h⟩
  ·obtain ⟨v8, h7, h⟩ := oS h
   have f6 := Jiv h7
   cases h
   refine J0 (lf := lf67) rfl rfl rfl ?_
   simp only [lf67, lc67]
   try simp only [c1] at f6
   simp [*]
  ·cases h
   refine J0 (lf := lf67) rfl rfl rfl ?_
   simp only [lf67, lc67]
   simp [*]
attribute [simp] c38_0 c38_1 c38_2 c38_3 c38_4 c38_5 c38_6 c38_7 c38_8 c38_9 J42 J1m J3p J5k J6g J8i J39 J56 c38_20
theorem c38_L0_u : EC Γ ps 0 Jw2 σ = EC Γ ps 0 (.seq (.reg false c38_8) (.seq (.cond (.t 26) .skip (.seq (.trim [2, 5, 6, 7, 8]) (.exit 2))) (.seq (.blk 3 (.seq (.reg false c38_9) (.seq (.reg false J42) (.seq (.reg false J1m) (.cond (.t 42) (.reg false J3p) .skip))))) (.reg false J5k)))) σ := rfl
theorem c38_L1_u : EC Γ ps 0 J1v σ = EC Γ ps 0 (.seq (.seq (.reg false c38_5) (.cond (.t 22) .skip (.seq (.trim [6]) (.exit 0)))) (.blk 1 (.seq (.reg false c38_6) (.seq (.seq (.reg false c38_7) (.blk 2 (.loop [2, 5, 6, 7, 8, 9, 23, 24, 25] Jw2))) (.seq (.reg false J6g) (.seq (.reg true J8i) (.seq (.reg false J39) (.reg false J56)))))))) σ := rfl
attribute [simp ↓] c38_L0_u c38_L1_u
def Ja1 (k0 : Ja) (k1 : Int) (s : ((FS Jb) × (FS Jb) × Int × Int × Int × Int)) : Option (LR ((FS Jb) × (FS Jb) × Int × Int × Int × Int) ((FS Jb) × (FS Jb) × Int × Int)) := match s with
 | (s0, s1, s2, s3, s4, s5) => (if (ilt s5 k1) = true then (J6 (fget s0 s5) fun v10 => (J6 (Jfo k0 v10) fun v14 => (if (bor (ilt s4 0) (ilt v14.2 s4)) = true then some (.nx (s0, s1, s5, v14.1, v14.2, (iadd L s5 1)))
 else some (.nx (s0, s1, s2, s3, s4, (iadd L s5 1))))))
 else some (.dn (s0, s1, s2, s3)))
def Qv (k0 : Ja) (k1 : Int) (s : ((FS Jb) × (FS Jb) × Int × Int × Int × Int)) : St := match s with
 | (s0, s1, s2, s3, s4, s5) => (Jat s0 (Jat s1 (⟨fr [(2, .ptr 2 0 0), (5, .nils), (6, .nils), (7, I L s2), (8, I L s3), (9, I L s4), (23, .nils), (24, I L k1), (25, I L s5)], hl [(2, .box 0 [I L k0.X, I L k0.Y])]⟩)
  (fun l1 => ⟨fr [(2, .ptr 2 0 0), (5, .nils), (6, .arr 6 0 0 l1.l.length), (7, I L s2), (8, I L s3), (9, I L s4), (23, .nils), (24, I L k1), (25, I L s5)], hl [(2, .box 0 [I L k0.X, I L k0.Y]), (6, .arr 0 3 42 (Jn Jc l1.l) false)]⟩))
  (fun l0 => (Jat s1 (⟨fr [(2, .ptr 2 0 0), (5, .arr 5 0 0 l0.l.length), (6, .nils), (7, I L s2), (8, I L s3), (9, I L s4), (23, .arr 5 0 0 l0.l.length), (24, I L k1), (25, I L s5)], hl [(2, .box 0 [I L k0.X, I L k0.Y]), (5, .arr 0 3 42 (Jn Jc l0.l) false)]⟩)
  (fun l1 => ⟨fr [(2, .ptr 2 0 0), (5, .arr 5 0 0 l0.l.length), (6, .arr 6 0 0 l1.l.length), (7, I L s2), (8, I L s3), (9, I L s4), (23, .arr 5 0 0 l0.l.length), (24, I L k1), (25, I L s5)], hl [(2, .box 0 [I L k0.X, I L k0.Y]), (5, .arr 0 3 42 (Jn Jc l0.l) false), (6, .arr 0 3 42 (Jn Jc l1.l) false)]⟩))))
def Zn (k0 : Ja) (k1 : Int) (x : ((FS Jb) × (FS Jb) × Int × Int)) : LE × St := (Jat x.1 (Jat x.2.1 (.exit 2, ⟨fr [(2, .ptr 2 0 0), (5, .nils), (6, .nils), (7, I L x.2.2.1), (8, I L x.2.2.2)], hl [(2, .box 0 [I L k0.X, I L k0.Y])]⟩)
  (fun l1 => (.exit 2, ⟨fr [(2, .ptr 2 0 0), (5, .nils), (6, .arr 6 0 0 l1.l.length), (7, I L x.2.2.1), (8, I L x.2.2.2)], hl [(2, .box 0 [I L k0.X, I L k0.Y]), (6, .arr 0 3 42 (Jn Jc l1.l) false)]⟩)))
  (fun l0 => (Jat x.2.1 (.exit 2, ⟨fr [(2, .ptr 2 0 0), (5, .arr 5 0 0 l0.l.length), (6, .nils), (7, I L x.2.2.1), (8, I L x.2.2.2)], hl [(2, .box 0 [I L k0.X, I L k0.Y]), (5, .arr 0 3 42 (Jn Jc l0.l) false)]⟩)
  (fun l1 => (.exit 2, ⟨fr [(2, .ptr 2 0 0), (5, .arr 5 0 0 l0.l.length), (6, .arr 6 0 0 l1.l.length), (7, I L x.2.2.1), (8, I L x.2.2.2)], hl [(2, .box 0 [I L k0.X, I L k0.Y]), (5, .arr 0 3 42 (Jn Jc l0.l) false), (6, .arr 0 3 42 (Jn Jc l1.l) false)]⟩)))))
theorem Jg7 {k0} {k1} {s} {r} (h : Kn (Ja1 k0 k1) bigN s = some r) : LK env [] 0 [2, 5, 6, 7, 8, 9, 23, 24, 25] Jw2 (some (Qv k0 k1 s)) = some (Zn k0 k1 r) := Kh (st := Qv k0 k1) (out := Zn k0 k1) (by
 clear h s r
 rintro ⟨s0, s1, s2, s3, s4, s5⟩ x h
 simp only [Ja1] at h
 cases e20 : s0 with
 | nil =>
  try simp only [e20, Jx] at h
  cases e22 : s1 with
  | nil =>
   try simp only [e22, Jx] at h
   rcases ifC h with ⟨c23, h⟩ | ⟨c23, h⟩
   ·exact absurd h (by simp [Jez])
   ·cases h
    simp only [Qv, Zn, e20, e22]
    rw [Jm]
    simp [*]
  | lst l21 =>
   try simp only [e22] at h
   rcases ifC h with ⟨c24, h⟩ | ⟨c24, h⟩
   ·exact absurd h (by simp [Jez])
   ·cases h
    simp only [Qv, Zn, e20, e22]
    rw [Jm]
    simp [*]
 | lst l19 =>
  try simp only [e20] at h
  cases e26 : s1 with
  | nil =>
   try simp only [e26, Jx] at h
   rcases ifC h with ⟨c27, h⟩ | ⟨c27, h⟩
   ·obtain ⟨v31, h30, h⟩ := oS h
    have f28 := Xm (w := 3) h30
    have f29 := h30
    have f32 := (Zb (e := Jc) f29 true 3 (by decide) (by decide))
    simp only [Jc] at f32
    obtain ⟨v35, h34, h⟩ := oS h
    have f33 := Jk2 h34
    rcases ifC h with ⟨c36, h⟩ | ⟨c36, h⟩
    ·cases h
     simp only [Qv, e20, e26]
     rw [Jm]
     rcases tof (ilt s4 0) with a37 | a37 <;> rcases tof (ilt v35.2 s4) with a38 | a38 <;> (try (simp [c27, a37, a38] at c36; done)) <;> simp [*]
    ·cases h
     simp only [Qv, e20, e26]
     rw [Jm]
     rcases tof (ilt s4 0) with a39 | a39 <;> rcases tof (ilt v35.2 s4) with a40 | a40 <;> (try (simp [c27, a39, a40] at c36; done)) <;> simp [*]
   ·cases h
    simp only [Qv, Zn, e20, e26]
    rw [Jm]
    simp [*]
  | lst l25 =>
   try simp only [e26] at h
   rcases ifC h with ⟨c41, h⟩ | ⟨c41, h⟩
   ·obtain ⟨v45, h44, h⟩ := oS h
    have f42 := Xm (w := 3) h44
    have f43 := h44
    have f46 := (Zb (e := Jc) f43 true 3 (by decide) (by decide))
    simp only [Jc] at f46
    obtain ⟨v49, h48, h⟩ := oS h
    have f47 := Jk2 h48
    rcases ifC h with ⟨c50, h⟩ | ⟨c50, h⟩
    ·cases h
     simp only [Qv, e20, e26]
     rw [Jm]
     rcases tof (ilt s4 0) with a51 | a51 <;> rcases tof (ilt v49.2 s4) with a52 | a52 <;> (try (simp [c41, a51, a52] at c50; done)) <;> simp [*]
    ·cases h
     simp only [Qv, e20, e26]
     rw [Jm]
     rcases tof (ilt s4 0) with a53 | a53 <;> rcases tof (ilt v49.2 s4) with a54 | a54 <;> (try (simp [c41, a53, a54] at c50; done)) <;> simp [*]
   ·cases h
    simp only [Qv, Zn, e20, e26]
    rw [Jm]
    simp [*]) bigN s r h
def Jb8  (s : (Ja × (FS Jb) × (FS Jb))) : Option (LR (Ja × (FS Jb) × (FS Jb)) (FS Jb)) := match s with
 | (s0, s1, s2) => (if (igt (flen s1) 0) = true then (J6 (Kn (Ja1 s0 (flen s1)) bigN (s1, s2, 0, 0, (-1), 0)) fun v17 => (J6 (fget v17.1 v17.2.2.1) fun v21 => (J6 (Jeq v21 v17.2.2.2) fun v25 => (J6 (fsl v17.1 0 v17.2.2.1) fun v27 => (J6 (fsl v17.1 (iadd L v17.2.2.1 1) (flen v17.1)) fun v29 => (if fits 40 (flen v27 + flen v29) = true then (if fits 40 ((flen v17.2.1) + 1) = true then (J6 (Jde v25) fun v36 => some (.nx (v36.a1, (fapp v27 v29), (Yy v17.2.1 v25)))) else none) else none))))))
 else some (.dn s2))
def Kv  (s : (Ja × (FS Jb) × (FS Jb))) : St := match s with
 | (s0, s1, s2) => (Jat s1 (Jat s2 (⟨fr [(2, .ptr 2 0 0), (5, .nils), (6, .nils)], hl [(2, .box 0 [I L s0.X, I L s0.Y])]⟩)
  (fun l1 => ⟨fr [(2, .ptr 2 0 0), (5, .nils), (6, .arr 6 0 0 l1.l.length)], hl [(2, .box 0 [I L s0.X, I L s0.Y]), (6, .arr 0 3 42 (Jn Jc l1.l) false)]⟩))
  (fun l0 => (Jat s2 (⟨fr [(2, .ptr 2 0 0), (5, .arr 5 0 0 l0.l.length), (6, .nils)], hl [(2, .box 0 [I L s0.X, I L s0.Y]), (5, .arr 0 3 42 (Jn Jc l0.l) false)]⟩)
  (fun l1 => ⟨fr [(2, .ptr 2 0 0), (5, .arr 5 0 0 l0.l.length), (6, .arr 6 0 0 l1.l.length)], hl [(2, .box 0 [I L s0.X, I L s0.Y]), (5, .arr 0 3 42 (Jn Jc l0.l) false), (6, .arr 0 3 42 (Jn Jc l1.l) false)]⟩))))
def Zw  (x : (FS Jb)) : LE × St := (Jat x (.exit 0, ⟨fr [(6, .nils)], hl []⟩)
  (fun l0 => (.exit 0, ⟨fr [(6, .arr 6 0 0 l0.l.length)], hl [(6, .arr 0 3 42 (Jn Jc l0.l) false)]⟩)))
theorem Jg4  {s} {r} (h : Kn (Jb8 ) bigN s = some r) : LK env [] 0 [2, 5, 6] J1v (some (Kv  s)) = some (Zw  r) := Kh (st := Kv ) (out := Zw ) (by
 clear h s r
 rintro ⟨s0, s1, s2⟩ x h
 simp only [Jb8] at h
 cases e11 : s1 with
 | nil =>
  try simp only [e11, Jx] at h
  cases e13 : s2 with
  | nil =>
   try simp only [e13, Jx] at h
   have c14 : (igt 0 0) = false := rfl
   rw [if_neg (by rw [c14]; decide)] at h
   cases h
   simp only [Kv, Zw, e11, e13]
   rw [Jm]
   simp [*]
  | lst l12 =>
   try simp only [e13] at h
   have c15 : (igt 0 0) = false := rfl
   rw [if_neg (by rw [c15]; decide)] at h
   cases h
   simp only [Kv, Zw, e11, e13]
   rw [Jm]
   simp [*]
 | lst l10 =>
  try simp only [e11] at h
  cases e17 : s2 with
  | nil =>
   try simp only [e17, Jx] at h
   rcases ifC h with ⟨c18, h⟩ | ⟨c18, h⟩
   ·obtain ⟨v56, h55, h⟩ := oS h
    have f57 := Jg7 h55
    simp only [Qv, Zn, J5] at f57
    cases e60 : v56.1 with
    | nil =>
     try simp only [e60, Jx] at h
     cases e62 : v56.2.1 with
     | nil =>
      try simp only [e62, Jx] at h
      simp only [e60, e62, Jx, Jg, Jh] at f57
      exact absurd h (by simp [Jez])
     | lst l61 =>
      try simp only [e62] at h
      simp only [e60, e62, Jx, Jg, Jh] at f57
      exact absurd h (by simp [Jez])
    | lst l59 =>
     try simp only [e60] at h
     cases e64 : v56.2.1 with
     | nil =>
      try simp only [e64, Jx] at h
      simp only [e60, e64, Jx, Jg, Jh] at f57
      obtain ⟨v68, h67, h⟩ := oS h
      have f65 := Xm (w := 3) h67
      have f66 := h67
      have f69 := (Zb (e := Jc) f66 true 3 (by decide) (by decide))
      simp only [Jc] at f69
      obtain ⟨v72, h71, h⟩ := oS h
      have f70 := Jef h71
      obtain ⟨v78, h77, h⟩ := oS h
      have f75 := Jfi (e := Jc) h77
      try simp only [Aa, Ab, Ac, Ad] at f75
      have f76 := Jhj h77 3
      try simp only [Aa, Ab, Ac, Ad] at f76
      have f73 := Jkp (w := 3) h77
      try simp only [Aa, Ab, Ac, Ad] at f73
      have f74 := h77
      obtain ⟨v84, h83, h⟩ := oS h
      have f81 := Jfi (e := Jc) h83
      try simp only [Aa, Ab, Ac, Ad] at f81
      have f82 := Jhj h83 3
      try simp only [Aa, Ab, Ac, Ad] at f82
      have f79 := Jhx (w := 3) h83
      try simp only [Aa, Ab, Ac, Ad] at f79
      have f80 := h83
      obtain ⟨h86, h⟩ := ifS h
      rcases tof (ieq (flen v84) 0) with z87 | z87
      ·simp only [Jnt z87] at h
       have f85 := fun g0 b0 (H : Heap) hg => @Jnn _ _ Jc _ _ _ _ _ _ _ _ f74 f80 z87 g0 b0 H 5 0 42 hg
       try simp only [Aa, Ab, Ac, Ad] at f85
       obtain ⟨h89, h⟩ := ifS h
       have f88 := fun H g0 hg y => @Jdk _ _ Jc _ v72 40 h89 (by decide) H g0 42 y hg
       simp only [Jc] at f88
       obtain ⟨v92, h91, h⟩ := oS h
       have f90 := jg h91
       cases h
       simp only [Kv, e11, e17]
       rw [Jm]
       try simp only [c18] at f57
       simp [*, Jkr]
      ·have f85 := fun g0 (H : Heap) hg => @Jo9 _ _ Jc _ _ _ _ _ _ _ _ f74 f80 40 h86 z87 (by decide) g0 H 5 0 42 hg
       try simp only [Aa, Ab, Ac, Ad] at f85
       obtain ⟨h94, h⟩ := ifS h
       have f93 := fun H g0 hg y => @Jdk _ _ Jc _ v72 40 h94 (by decide) H g0 42 y hg
       simp only [Jc] at f93
       obtain ⟨v97, h96, h⟩ := oS h
       have f95 := jg h96
       cases h
       simp only [Kv, e11, e17]
       rw [Jm]
       try simp only [c18] at f57
       simp [*]
     | lst l63 =>
      try simp only [e64] at h
      simp only [e60, e64, Jx, Jg, Jh] at f57
      obtain ⟨v101, h100, h⟩ := oS h
      have f98 := Xm (w := 3) h100
      have f99 := h100
      have f102 := (Zb (e := Jc) f99 true 3 (by decide) (by decide))
      simp only [Jc] at f102
      obtain ⟨v105, h104, h⟩ := oS h
      have f103 := Jef h104
      obtain ⟨v111, h110, h⟩ := oS h
      have f108 := Jfi (e := Jc) h110
      try simp only [Aa, Ab, Ac, Ad] at f108
      have f109 := Jhj h110 3
      try simp only [Aa, Ab, Ac, Ad] at f109
      have f106 := Jkp (w := 3) h110
      try simp only [Aa, Ab, Ac, Ad] at f106
      have f107 := h110
      obtain ⟨v117, h116, h⟩ := oS h
      have f114 := Jfi (e := Jc) h116
      try simp only [Aa, Ab, Ac, Ad] at f114
      have f115 := Jhj h116 3
      try simp only [Aa, Ab, Ac, Ad] at f115
      have f112 := Jhx (w := 3) h116
      try simp only [Aa, Ab, Ac, Ad] at f112
      have f113 := h116
      obtain ⟨h119, h⟩ := ifS h
      rcases tof (ieq (flen v117) 0) with z120 | z120
      ·simp only [Jnt z120] at h
       have f118 := fun g0 b0 (H : Heap) hg => @Jnn _ _ Jc _ _ _ _ _ _ _ _ f107 f113 z120 g0 b0 H 5 0 42 hg
       try simp only [Aa, Ab, Ac, Ad] at f118
       obtain ⟨h122, h⟩ := ifS h
       have f121 := fun g0 H y => @Y3 _ _ Jc _ (FS.lst l63) v105 40 h122 (by decide) g0 H 6 0 42 y
       simp only [Jc] at f121
       obtain ⟨v125, h124, h⟩ := oS h
       have f123 := jg h124
       cases h
       simp only [Kv, e11, e17]
       rw [Jm]
       try simp only [c18] at f57
       simp [*, Jkr]
      ·have f118 := fun g0 (H : Heap) hg => @Jo9 _ _ Jc _ _ _ _ _ _ _ _ f107 f113 40 h119 z120 (by decide) g0 H 5 0 42 hg
       try simp only [Aa, Ab, Ac, Ad] at f118
       obtain ⟨h127, h⟩ := ifS h
       have f126 := fun g0 H y => @Y3 _ _ Jc _ (FS.lst l63) v105 40 h127 (by decide) g0 H 6 0 42 y
       simp only [Jc] at f126
       obtain ⟨v130, h129, h⟩ := oS h
       have f128 := jg h129
       cases h
       simp only [Kv, e11, e17]
       rw [Jm]
       try simp only [c18] at f57
       simp [*]
   ·cases h
    simp only [Kv, Zw, e11, e17]
    rw [Jm]
    simp [*]
  | lst l16 =>
   try simp only [e17] at h
   rcases ifC h with ⟨c131, h⟩ | ⟨c131, h⟩
   ·obtain ⟨v133, h132, h⟩ := oS h
    have f134 := Jg7 h132
    simp only [Qv, Zn, J5] at f134
    cases e137 : v133.1 with
    | nil =>
     try simp only [e137, Jx] at h
     cases e139 : v133.2.1 with
     | nil =>
      try simp only [e139, Jx] at h
      simp only [e137, e139, Jx, Jg, Jh] at f134
      exact absurd h (by simp [Jez])
     | lst l138 =>
      try simp only [e139] at h
      simp only [e137, e139, Jx, Jg, Jh] at f134
      exact absurd h (by simp [Jez])
    | lst l136 =>
     try simp only [e137] at h
     cases e141 : v133.2.1 with
     | nil =>
      try simp only [e141, Jx] at h
      simp only [e137, e141, Jx, Jg, Jh] at f134
      obtain ⟨v145, h144, h⟩ := oS h
      have f142 := Xm (w := 3) h144
      have f143 := h144
      have f146 := (Zb (e := Jc) f143 true 3 (by decide) (by decide))
      simp only [Jc] at f146
      obtain ⟨v149, h148, h⟩ := oS h
      have f147 := Jef h148
      obtain ⟨v155, h154, h⟩ := oS h
      have f152 := Jfi (e := Jc) h154
      try simp only [Aa, Ab, Ac, Ad] at f152
      have f153 := Jhj h154 3
      try simp only [Aa, Ab, Ac, Ad] at f153
      have f150 := Jkp (w := 3) h154
      try simp only [Aa, Ab, Ac, Ad] at f150
      have f151 := h154
      obtain ⟨v161, h160, h⟩ := oS h
      have f158 := Jfi (e := Jc) h160
      try simp only [Aa, Ab, Ac, Ad] at f158
      have f159 := Jhj h160 3
      try simp only [Aa, Ab, Ac, Ad] at f159
      have f156 := Jhx (w := 3) h160
      try simp only [Aa, Ab, Ac, Ad] at f156
      have f157 := h160
      obtain ⟨h163, h⟩ := ifS h
      rcases tof (ieq (flen v161) 0) with z164 | z164
      ·simp only [Jnt z164] at h
       have f162 := fun g0 b0 (H : Heap) hg => @Jnn _ _ Jc _ _ _ _ _ _ _ _ f151 f157 z164 g0 b0 H 5 0 42 hg
       try simp only [Aa, Ab, Ac, Ad] at f162
       obtain ⟨h166, h⟩ := ifS h
       have f165 := fun H g0 hg y => @Jdk _ _ Jc _ v149 40 h166 (by decide) H g0 42 y hg
       simp only [Jc] at f165
       obtain ⟨v169, h168, h⟩ := oS h
       have f167 := jg h168
       cases h
       simp only [Kv, e11, e17]
       rw [Jm]
       try simp only [c131] at f134
       simp [*, Jkr]
      ·have f162 := fun g0 (H : Heap) hg => @Jo9 _ _ Jc _ _ _ _ _ _ _ _ f151 f157 40 h163 z164 (by decide) g0 H 5 0 42 hg
       try simp only [Aa, Ab, Ac, Ad] at f162
       obtain ⟨h171, h⟩ := ifS h
       have f170 := fun H g0 hg y => @Jdk _ _ Jc _ v149 40 h171 (by decide) H g0 42 y hg
       simp only [Jc] at f170
       obtain ⟨v174, h173, h⟩ := oS h
       have f172 := jg h173
       cases h
       simp only [Kv, e11, e17]
       rw [Jm]
       try simp only [c131] at f134
       simp [*]
     | lst l140 =>
      try simp only [e141] at h
      simp only [e137, e141, Jx, Jg, Jh] at f134
      obtain ⟨v178, h177, h⟩ := oS h
      have f175 := Xm (w := 3) h177
      have f176 := h177
      have f179 := (Zb (e := Jc) f176 true 3 (by decide) (by decide))
      simp only [Jc] at f179
      obtain ⟨v182, h181, h⟩ := oS h
      have f180 := Jef h181
      obtain ⟨v188, h187, h⟩ := oS h
      have f185 := Jfi (e := Jc) h187
      try simp only [Aa, Ab, Ac, Ad] at f185
      have f186 := Jhj h187 3
      try simp only [Aa, Ab, Ac, Ad] at f186
      have f183 := Jkp (w := 3) h187
      try simp only [Aa, Ab, Ac, Ad] at f183
      have f184 := h187
      obtain ⟨v194, h193, h⟩ := oS h
      have f191 := Jfi (e := Jc) h193
      try simp only [Aa, Ab, Ac, Ad] at f191
      have f192 := Jhj h193 3
      try simp only [Aa, Ab, Ac, Ad] at f192
      have f189 := Jhx (w := 3) h193
      try simp only [Aa, Ab, Ac, Ad] at f189
      have f190 := h193
      obtain ⟨h196, h⟩ := ifS h
      rcases tof (ieq (flen v194) 0) with z197 | z197
      ·simp only [Jnt z197] at h
       have f195 := fun g0 b0 (H : Heap) hg => @Jnn _ _ Jc _ _ _ _ _ _ _ _ f184 f190 z197 g0 b0 H 5 0 42 hg
       try simp only [Aa, Ab, Ac, Ad] at f195
       obtain ⟨h199, h⟩ := ifS h
       have f198 := fun g0 H y => @Y3 _ _ Jc _ (FS.lst l140) v182 40 h199 (by decide) g0 H 6 0 42 y
       simp only [Jc] at f198
       obtain ⟨v202, h201, h⟩ := oS h
       have f200 := jg h201
       cases h
       simp only [Kv, e11, e17]
       rw [Jm]
       try simp only [c131] at f134
       simp [*, Jkr]
      ·have f195 := fun g0 (H : Heap) hg => @Jo9 _ _ Jc _ _ _ _ _ _ _ _ f184 f190 40 h196 z197 (by decide) g0 H 5 0 42 hg
       try simp only [Aa, Ab, Ac, Ad] at f195
       obtain ⟨h204, h⟩ := ifS h
       have f203 := fun g0 H y => @Y3 _ _ Jc _ (FS.lst l140) v182 40 h204 (by decide) g0 H 6 0 42 y
       simp only [Jc] at f203
       obtain ⟨v207, h206, h⟩ := oS h
       have f205 := jg h206
       cases h
       simp only [Kv, e11, e17]
       rw [Jm]
       try simp only [c131] at f134
       simp [*]
   ·cases h
    simp only [Kv, Zw, e11, e17]
    rw [Jm]
    simp [*]) bigN s r h
def Jfc (p0 : Ja) (p1 : (FS Jb)) : Option (FS Jb) := (if (bnot (Xj p0)) = true then some (FS.nil : (FS Jb))
 else (J6 (Jey p1) fun v4 => (J6 (Kn (Jb8) bigN (p0, v4, (FS.nil : (FS Jb)))) fun v38 => some v38)))
theorem Jj4 {p0} {p1} {r} (h : Jfc p0 p1 = some r) : FC env 38 [.agg [I L p0.X, I L p0.Y], encF Jc p1] none = some (encF Jc r, fun _ => none) := by
 unfold Jfc at h
 have f1 := Jju p0
 rcases ifC h with ⟨c2, h⟩ | ⟨c2, h⟩
 ·cases h
  refine J0 (lf := lf38) rfl rfl rfl ?_
  simp only [lf38, lc38]
  rcases tof (Xj p0) with a3 | a3
  ·simp [a3] at c2
  ·simp [*]
 ·obtain ⟨v5, h4, h⟩ := oS h
  have f6 := Jkt h4
  cases e8 : v5 with
  | nil =>
   try simp only [e8, Jx] at h
   simp only [e8, Jx, Jg, Jh] at f6
   have f9 : ∀ H : Heap, Jcc (FC env) 62 H [encF Jc p1] = some (.nils, H) := by
     intro H 
     simp [*]
   obtain ⟨v209, h208, h⟩ := oS h
   have f210 := Jg4 h208
   simp only [Kv, Zw, J5] at f210
   cases e213 : v209 with
   | nil =>
    try simp only [e213, Jx] at h
    simp only [e213, Jx, Jg, Jh] at f210
    cases h
    refine J0 (lf := lf38) rfl rfl rfl ?_
    simp only [lf38, lc38]
    rcases tof (Xj p0) with a214 | a214
    ·try simp only [a214] at f6 f210
     simp [*, -Q6]
    ·simp [a214] at c2
   | lst l212 =>
    try simp only [e213] at h
    simp only [e213, Jx, Jg, Jh] at f210
    cases h
    refine J0 (lf := lf38) rfl rfl rfl ?_
    simp only [lf38, lc38]
    rcases tof (Xj p0) with a215 | a215
    ·try simp only [a215] at f6 f210
     simp [*, -Q6, Kq (e := Jc) (el := 42) (fz := false)]
    ·simp [a215] at c2
  | lst l7 =>
   try simp only [e8] at h
   simp only [e8, Jx, Jg, Jh] at f6
   have f216 : ∀ H : Heap, H 701062000 = none → Jcc (FC env) 62 H [encF Jc p1] = some (.arr 701062000 0 0 (FS.lst l7).l.length, upd H 701062000 (some (.arr 0 3 42 (Jn Jc (FS.lst l7).l) false))) := by
     intro H q0
     simp [*, q0]
   obtain ⟨v218, h217, h⟩ := oS h
   have f219 := Jg4 h217
   simp only [Kv, Zw, J5] at f219
   cases e222 : v218 with
   | nil =>
    try simp only [e222, Jx] at h
    simp only [e222, Jx, Jg, Jh] at f219
    cases h
    refine J0 (lf := lf38) rfl rfl rfl ?_
    simp only [lf38, lc38]
    rcases tof (Xj p0) with a223 | a223
    ·try simp only [a223] at f6 f219
     simp [*, -Q6]
    ·simp [a223] at c2
   | lst l221 =>
    try simp only [e222] at h
    simp only [e222, Jx, Jg, Jh] at f219
    cases h
    refine J0 (lf := lf38) rfl rfl rfl ?_
    simp only [lf38, lc38]
    rcases tof (Xj p0) with a224 | a224
    ·try simp only [a224] at f6 f219
     simp [*, -Q6, Kq (e := Jc) (el := 42) (fz := false)]
    ·simp [a224] at c2
attribute [simp] c85_0 c85_1 c85_2 c85_3 c85_4
def Jdi (p0 : Jb) : Option (A2 Ja) := (J6 (Jde p0) fun v3 => (if (bnot p0.Closed) = true then some (⟨v3.a1, v3.a0⟩ : (A2 Ja))
 else some v3))
theorem Jgp {p0} {r} (h : Jdi p0 = some r) : FC env 85 [.agg [I L p0.Role, .bool p0.Closed, encF Jf p0.Cells]] none = some (.agg [I L r.a0.X, I L r.a0.Y, I L r.a1.X, I L r.a1.Y], fun _ => none) := by
 unfold Jdi at h
 obtain ⟨v3, h2, h⟩ := oS h
 have f1 := jg h2
 rcases ifC h with ⟨c4, h⟩ | ⟨c4, h⟩
 ·cases h
  refine J0 (lf := lf85) rfl rfl rfl ?_
  simp only [lf85, lc85]
  rcases tof p0.Closed with a5 | a5
  ·simp [a5] at c4
  ·try simp only [a5] at f1
   simp [*]
 ·cases h
  refine J0 (lf := lf85) rfl rfl rfl ?_
  simp only [lf85, lc85]
  rcases tof p0.Closed with a6 | a6
  ·try simp only [a6] at f1
   simp [*]
  ·simp [a6] at c4
attribute [simp] c63_0 c63_1 c63_2 c63_3 c63_4 c63_5 c63_6 c63_7 c63_8 c63_9 J0y J75 J9u J57 c63_15
theorem c63_L0_u : EC Γ ps 0 J0x σ = EC Γ ps 0 (.seq (.reg false c63_3) (.seq (.cond (.t 15) .skip (.seq (.trim [4, 5]) (.exit 0))) (.seq (.blk 1 (.seq (.reg false c63_4) (.seq (.reg true c63_5) (.seq (.reg true c63_6) (.seq (.reg false c63_7) (.seq (.seq (.reg false c63_8) (.cond (.t 34) (.seq (.reg true c63_9) (.reg true J0y)) .skip)) (.seq (.reg false J75) (.reg false J9u)))))))) (.reg false J57)))) σ := rfl
attribute [simp ↓] c63_L0_u
def Jbf (k0 : (FS Jb)) (k1 : X2) (k2 : Int) (s : (X2 × Int)) : Option (LR (X2 × Int) X2) := match s with
 | (s0, s1) => (if (band (beqB (fnl s0.a) (fnl s0.b)) (band (beqB (fnl s0.a) (fnl s0.ahead)) (beqB (fnl s0.a) (fnl s0.aback)))) = true then (if (ilt s1 k2) = true then (J6 (fget k0 s1) fun v5 => (J6 (Jde v5) fun v9 => (if fits 32 ((flen s0.a) + 1) = true then (J6 (Jdi v5) fun v14 => (if fits 32 ((flen s0.b) + 1) = true then (if (igt s1 0) = true then (J6 (fget s0.ahead (isub L s1 1)) fun v20 => (J6 (fget (Yy s0.a v9) (isub L s1 1)) fun v25 => (J6 (fget (Yy s0.a v9) s1) fun v30 => (J6 (fget s0.aback (isub L s1 1)) fun v35 => (J6 (fget (Yy s0.b v14) s1) fun v40 => (J6 (fget (Yy s0.b v14) (isub L s1 1)) fun v45 => (if fits 8 ((flen s0.ahead) + 1) = true then (if fits 8 ((flen s0.aback) + 1) = true then some (.nx ((⟨s0.from_, (Yy s0.a v9), (Yy s0.b v14), (Yy s0.ahead (iadd L v20 (J9 v25.a1 v30.a0))), (Yy s0.aback (iadd L v35 (J9 v40.a1 v45.a0)))⟩ : X2), (iadd L s1 1))) else none) else none)))))))
 else (if fits 8 ((flen s0.ahead) + 1) = true then (if fits 8 ((flen s0.aback) + 1) = true then some (.nx ((⟨s0.from_, (Yy s0.a v9), (Yy s0.b v14), (Yy s0.ahead 0), (Yy s0.aback 0)⟩ : X2), (iadd L s1 1))) else none) else none)) else none)) else none)))
 else some (.dn (⟨s0.from_, s0.a, s0.b, s0.ahead, s0.aback⟩ : X2)))
 else none)
def Zs (k0 : (FS Jb)) (k1 : X2) (k2 : Int) (s : (X2 × Int)) : St := match s with
 | (s0, s1) => (Jat s0.a (⟨fr [(4, .ptr 4 0 0), (5, .ptr 5 0 0), (12, .arr 1 0 0 k0.l.length), (13, I L k2), (14, I L s1)], hl [(1, .arr 0 3 42 (Jn Jc k0.l) false), (4, .box 0 [I L k1.from_.X, I L k1.from_.Y, .nils, .nils, .nils, .nils]), (5, .box 0 [I L s0.from_.X, I L s0.from_.Y, .nils, .nils, .nils, .nils])]⟩)
  (fun l0 => ⟨fr [(4, .ptr 4 0 0), (5, .ptr 5 0 0), (12, .arr 1 0 0 k0.l.length), (13, I L k2), (14, I L s1)], hl [(1, .arr 0 3 42 (Jn Jc k0.l) false), (4, .box 0 [I L k1.from_.X, I L k1.from_.Y, .nils, .nils, .nils, .nils]), (5, .box 0 [I L s0.from_.X, I L s0.from_.Y, .arr 1005002 0 0 l0.l.length, .arr 1005003 0 0 s0.b.l.length, .arr 1005004 0 0 s0.ahead.l.length, .arr 1005005 0 0 s0.aback.l.length]), (1005002, .arr 0 4 106 (Jn J8 l0.l) false), (1005003, .arr 0 4 106 (Jn J8 s0.b.l) false), (1005004, .arr 0 1 3 (Jn Jcg s0.ahead.l) false), (1005005, .arr 0 1 3 (Jn Jcg s0.aback.l) false)]⟩))
def Jb0 (k0 : (FS Jb)) (k1 : X2) (k2 : Int) (x : X2) : LE × St := (Jat x.a (.exit 0, ⟨fr [(4, .ptr 4 0 0), (5, .ptr 5 0 0)], hl [(1, .arr 0 3 42 (Jn Jc k0.l) false), (4, .box 0 [I L k1.from_.X, I L k1.from_.Y, .nils, .nils, .nils, .nils]), (5, .box 0 [I L x.from_.X, I L x.from_.Y, .nils, .nils, .nils, .nils])]⟩)
  (fun l0 => (.exit 0, ⟨fr [(4, .ptr 4 0 0), (5, .ptr 5 0 0)], hl [(1, .arr 0 3 42 (Jn Jc k0.l) false), (4, .box 0 [I L k1.from_.X, I L k1.from_.Y, .nils, .nils, .nils, .nils]), (5, .box 0 [I L x.from_.X, I L x.from_.Y, .arr 1005002 0 0 l0.l.length, .arr 1005003 0 0 x.b.l.length, .arr 1005004 0 0 x.ahead.l.length, .arr 1005005 0 0 x.aback.l.length]), (1005002, .arr 0 4 106 (Jn J8 l0.l) false), (1005003, .arr 0 4 106 (Jn J8 x.b.l) false), (1005004, .arr 0 1 3 (Jn Jcg x.ahead.l) false), (1005005, .arr 0 1 3 (Jn Jcg x.aback.l) false)]⟩)))
theorem Jlm {k0} {k1} {k2} {s} {r} (h : Kn (Jbf k0 k1 k2) bigN s = some r) : LK env [1] 0 [4, 5, 12, 13, 14] J0x (some (Zs k0 k1 k2 s)) = some (Jb0 k0 k1 k2 r) := Kh (st := Zs k0 k1 k2) (out := Jb0 k0 k1 k2) (by
 clear h s r
 rintro ⟨s0, s1⟩ x h
 simp only [Jbf] at h
 obtain ⟨hG, h⟩ := ifS h
 cases e2 : s0.a with
 | nil =>
  try simp only [e2, Jx] at h
  cases e4 : s0.b with
  | nil =>
   try simp only [e4, Jx] at h
   cases e6 : s0.ahead with
   | nil =>
    try simp only [e6, Jx] at h
    cases e8 : s0.aback with
    | nil =>
     try simp only [e8, Jx] at h
     rcases ifC h with ⟨c9, h⟩ | ⟨c9, h⟩
     ·obtain ⟨v13, h12, h⟩ := oS h
      have f10 := Xm (w := 3) h12
      have f11 := h12
      have f14 := (Zb (e := Jc) f11 true 3 (by decide) (by decide))
      simp only [Jc] at f14
      obtain ⟨v17, h16, h⟩ := oS h
      have f15 := jg h16
      obtain ⟨h19, h⟩ := ifS h
      have f18 := fun H g0 hg y => @Jdk _ _ J8 _ v17 32 h19 (by decide) H g0 106 y hg
      simp only [J8] at f18
      obtain ⟨v22, h21, h⟩ := oS h
      have f20 := Jgp h21
      obtain ⟨h24, h⟩ := ifS h
      have f23 := fun H g0 hg y => @Jdk _ _ J8 _ v22 32 h24 (by decide) H g0 106 y hg
      simp only [J8] at f23
      rcases ifC h with ⟨c25, h⟩ | ⟨c25, h⟩
      ·exact absurd h (by simp [Jez])
      ·obtain ⟨h27, h⟩ := ifS h
       have f26 := fun H g0 hg y => @Jdk _ _ Jcg _ 0 8 h27 (by decide) H g0 3 y hg
       simp only [Jcg] at f26
       obtain ⟨h29, h⟩ := ifS h
       have f28 := fun H g0 hg y => @Jdk _ _ Jcg _ 0 8 h29 (by decide) H g0 3 y hg
       simp only [Jcg] at f28
       cases h
       simp only [Zs, e2, e4, e6, e8]
       rw [Jm]
       simp [*]
     ·cases h
      simp only [Zs, Jb0, e2, e4, e6, e8]
      rw [Jm]
      simp [*]
    | lst l7 =>
     exact absurd hG (by simp [e2, e8])
   | lst l5 =>
    exact absurd hG (by simp [e2, e6])
  | lst l3 =>
   exact absurd hG (by simp [e2, e4])
 | lst l1 =>
  try simp only [e2] at h
  cases e31 : s0.b with
  | nil =>
   exact absurd hG (by simp [e2, e31])
  | lst l30 =>
   try simp only [e31] at h
   cases e33 : s0.ahead with
   | nil =>
    exact absurd hG (by simp [e2, e33])
   | lst l32 =>
    try simp only [e33] at h
    cases e35 : s0.aback with
    | nil =>
     exact absurd hG (by simp [e2, e35])
    | lst l34 =>
     try simp only [e35] at h
     rcases ifC h with ⟨c36, h⟩ | ⟨c36, h⟩
     ·obtain ⟨v40, h39, h⟩ := oS h
      have f37 := Xm (w := 3) h39
      have f38 := h39
      have f41 := (Zb (e := Jc) f38 true 3 (by decide) (by decide))
      simp only [Jc] at f41
      obtain ⟨v44, h43, h⟩ := oS h
      have f42 := jg h43
      obtain ⟨h46, h⟩ := ifS h
      have f45 := fun g0 H y => @Y3 _ _ J8 _ (FS.lst l1) v44 32 h46 (by decide) g0 H 1005002 0 106 y
      simp only [J8] at f45
      obtain ⟨v49, h48, h⟩ := oS h
      have f47 := Jgp h48
      obtain ⟨h51, h⟩ := ifS h
      have f50 := fun g0 H y => @Y3 _ _ J8 _ (FS.lst l30) v49 32 h51 (by decide) g0 H 1005003 0 106 y
      simp only [J8] at f50
      rcases ifC h with ⟨c52, h⟩ | ⟨c52, h⟩
      ·obtain ⟨v56, h55, h⟩ := oS h
       have f53 := Xm (w := 1) h55
       have f54 := h55
       have f57 := (Zb (e := Jcg) f54 false 1 (by decide) (by decide))
       simp only [Jcg] at f57
       obtain ⟨v61, h60, h⟩ := oS h
       have f58 := Xm (w := 4) h60
       have f59 := h60
       have f62 := (Jpa (e := J8) f59 true 2 2 (by decide) (by decide))
       simp only [J8] at f62
       obtain ⟨v66, h65, h⟩ := oS h
       have f63 := Xm (w := 4) h65
       have f64 := h65
       have f67 := (Zb (e := J8) f64 true 2 (by decide) (by decide))
       simp only [J8] at f67
       have f68 := jj v61.a1 v66.a0
       obtain ⟨v72, h71, h⟩ := oS h
       have f69 := Xm (w := 1) h71
       have f70 := h71
       have f73 := (Zb (e := Jcg) f70 false 1 (by decide) (by decide))
       simp only [Jcg] at f73
       obtain ⟨v77, h76, h⟩ := oS h
       have f74 := Xm (w := 4) h76
       have f75 := h76
       have f78 := (Jpa (e := J8) f75 true 2 2 (by decide) (by decide))
       simp only [J8] at f78
       obtain ⟨v82, h81, h⟩ := oS h
       have f79 := Xm (w := 4) h81
       have f80 := h81
       have f83 := (Zb (e := J8) f80 true 2 (by decide) (by decide))
       simp only [J8] at f83
       have f84 := jj v77.a1 v82.a0
       obtain ⟨h86, h⟩ := ifS h
       have f85 := fun g0 H y => @Y3 _ _ Jcg _ (FS.lst l32) (iadd L v56 (J9 v61.a1 v66.a0)) 8 h86 (by decide) g0 H 1005004 0 3 y
       simp only [Jcg] at f85
       obtain ⟨h88, h⟩ := ifS h
       have f87 := fun g0 H y => @Y3 _ _ Jcg _ (FS.lst l34) (iadd L v72 (J9 v77.a1 v82.a0)) 8 h88 (by decide) g0 H 1005005 0 3 y
       simp only [Jcg] at f87
       cases h
       simp only [Zs, e2, e31, e33, e35]
       rw [Jm]
       simp [*]
      ·obtain ⟨h90, h⟩ := ifS h
       have f89 := fun g0 H y => @Y3 _ _ Jcg _ (FS.lst l32) 0 8 h90 (by decide) g0 H 1005004 0 3 y
       simp only [Jcg] at f89
       obtain ⟨h92, h⟩ := ifS h
       have f91 := fun g0 H y => @Y3 _ _ Jcg _ (FS.lst l34) 0 8 h92 (by decide) g0 H 1005005 0 3 y
       simp only [Jcg] at f91
       cases h
       simp only [Zs, e2, e31, e33, e35]
       rw [Jm]
       simp [*]
     ·cases h
      simp only [Zs, Jb0, e2, e31, e33, e35]
      rw [Jm]
      simp [*]) bigN s r h
def Jc4 (p0 : Ja) (p1 : (FS Jb)) : Option (X2 × (FS Jb)) := (J6 (Kn (Jbf p1 (⟨(⟨0, 0⟩ : Ja), (FS.nil : (FS (A2 Ja))), (FS.nil : (FS (A2 Ja))), (FS.nil : (FS Int)), (FS.nil : (FS Int))⟩ : X2) (flen p1)) bigN ((⟨p0, (FS.nil : (FS (A2 Ja))), (FS.nil : (FS (A2 Ja))), (FS.nil : (FS Int)), (FS.nil : (FS Int))⟩ : X2), 0)) fun v57 => (if (band (beqB (fnl v57.a) (fnl v57.b)) (band (beqB (fnl v57.a) (fnl v57.ahead)) (beqB (fnl v57.a) (fnl v57.aback)))) = true then some ((⟨v57.from_, v57.a, v57.b, v57.ahead, v57.aback⟩ : X2), p1)
 else none))
theorem Jm9 {p0} {p1} {r} (h : Jc4 p0 p1 = some r) : FC env 63 [.agg [I L p0.X, I L p0.Y], .arr 1 0 0 p1.l.length] (some (hl [(1, .arr 0 3 42 (Jn Jc p1.l) false)], 0)) = some (.agg [I L r.1.from_.X, I L r.1.from_.Y, encF J8 r.1.a, encF J8 r.1.b, encF Jcg r.1.ahead, encF Jcg r.1.aback], hl [(1, .arr 0 3 42 (Jn Jc r.2.l) false)]) ∧ r.2 = p1 := by
 unfold Jc4 at h
 obtain ⟨v94, h93, h⟩ := oS h
 have f95 := Jlm h93
 simp only [Zs, Jb0, J5] at f95
 obtain ⟨h96, h⟩ := ifS h
 cases e98 : v94.a with
 | nil =>
  try simp only [e98, Jx] at h
  cases e100 : v94.b with
  | nil =>
   try simp only [e100, Jx] at h
   cases e102 : v94.ahead with
   | nil =>
    try simp only [e102, Jx] at h
    cases e104 : v94.aback with
    | nil =>
     try simp only [e104, Jx] at h
     simp only [e98, e100, e102, e104, Jx, Jg, Jh] at f95
     cases h
     refine ⟨?_, rfl⟩
     refine Jav (lf := lf63) rfl rfl rfl ?_
     simp only [lf63, lc63]
     simp [*]
    | lst l103 =>
     exact absurd h96 (by simp [e98, e104])
   | lst l101 =>
    exact absurd h96 (by simp [e98, e102])
  | lst l99 =>
   exact absurd h96 (by simp [e98, e100])
 | lst l97 =>
  try simp only [e98] at h
  cases e106 : v94.b with
  | nil =>
   exact absurd h96 (by simp [e98, e106])
  | lst l105 =>
   try simp only [e106] at h
   cases e108 : v94.ahead with
   | nil =>
    exact absurd h96 (by simp [e98, e108])
   | lst l107 =>
    try simp only [e108] at h
    cases e110 : v94.aback with
    | nil =>
     exact absurd h96 (by simp [e98, e110])
    | lst l109 =>
     try simp only [e110] at h
     simp only [e98, e106, e108, e110, Jx, Jg, Jh] at f95
     cases h
     refine ⟨?_, rfl⟩
     refine Jav (lf := lf63) rfl rfl rfl ?_
     simp only [lf63, lc63]
     simp [*, Jnj, Jm7, Qm, K5, Qo, K4, Qq, Jfd (e := J8) (el := 106) (fz := false), Jfd (e := J8) (el := 106) (fz := false), Jfd (e := Jcg) (el := 3) (fz := false), Jfd (e := Jcg) (el := 3) (fz := false)]
theorem Jmo {p0 : Ja} {r : (X2 × (FS Jb))} (h : Jc4 p0 (FS.nil : (FS Jb)) = some r) : FC env 63 [.agg [I L p0.X, I L p0.Y], .nils] (some (hl [], 0)) = some (.agg [I L r.1.from_.X, I L r.1.from_.Y, encF J8 r.1.a, encF J8 r.1.b, encF Jcg r.1.ahead, encF Jcg r.1.aback], hl []) ∧ r.2 = FS.nil := by
  have h2 := (rfl : Jc4 p0 (FS.nil : (FS Jb)) = some _)
  rw [h2] at h
  cases h
  exact ⟨Ji1.2 ⟨60, by kernel_rfl⟩, rfl⟩
attribute [simp] c87_0 c87_1 c87_2 c87_3 c87_4 c87_5 c87_6 c87_7 c87_8 c87_9
def Jdd (p0 : X2) (p1 : Int) (p2 : Int) : Option Bool := (if (igt p1 0) = true then (J6 (fget p0.a (isub L p1 1)) fun v4 => (J6 (fget p0.a p1) fun v7 => (J6 (fget p0.ahead p2) fun v11 => (J6 (fget p0.ahead p1) fun v14 => (J6 (fget p0.b p2) fun v17 => (J6 (fget p0.aback p2) fun v21 => (J6 (fget p0.aback p1) fun v24 => (if (ilt (iadd L p2 1) (flen p0.a)) = true then (J6 (fget p0.a p2) fun v28 => (J6 (fget p0.a (iadd L p2 1)) fun v31 => (J6 (fget p0.b p1) fun v35 => some (ilt (iadd L (isub L (iadd L (J9 v4.a1 v17.a0) v21) v24) (J9 v35.a1 v31.a0)) (iadd L (isub L (iadd L (J9 v4.a1 v7.a0) v11) v14) (J9 v28.a1 v31.a0))))))
 else some (ilt (isub L (iadd L (J9 v4.a1 v17.a0) v21) v24) (isub L (iadd L (J9 v4.a1 v7.a0) v11) v14))))))))))
 else (J6 (fget p0.a p1) fun v40 => (J6 (fget p0.ahead p2) fun v44 => (J6 (fget p0.ahead p1) fun v47 => (J6 (fget p0.b p2) fun v50 => (J6 (fget p0.aback p2) fun v54 => (J6 (fget p0.aback p1) fun v57 => (if (ilt (iadd L p2 1) (flen p0.a)) = true then (J6 (fget p0.a p2) fun v61 => (J6 (fget p0.a (iadd L p2 1)) fun v64 => (J6 (fget p0.b p1) fun v68 => some (ilt (iadd L (isub L (iadd L (J9 p0.from_ v50.a0) v54) v57) (J9 v68.a1 v64.a0)) (iadd L (isub L (iadd L (J9 p0.from_ v40.a0) v44) v47) (J9 v61.a1 v64.a0))))))
 else some (ilt (isub L (iadd L (J9 p0.from_ v50.a0) v54) v57) (isub L (iadd L (J9 p0.from_ v40.a0) v44) v47))))))))))
theorem Jlo {p0} {p1} {p2} {r} (h : Jdd p0 p1 p2 = some r) : FC env 87 [.agg [I L p0.from_.X, I L p0.from_.Y, encF J8 p0.a, encF J8 p0.b, encF Jcg p0.ahead, encF Jcg p0.aback], I L p1, I L p2] none = some (.bool r, fun _ => none) := by
 unfold Jdd at h
 rcases ifC h with ⟨c1, h⟩ | ⟨c1, h⟩
 ·obtain ⟨v4, h3, h⟩ := oS h
  have f2 := Kf (e := J8) h3
  obtain ⟨v7, h6, h⟩ := oS h
  have f5 := Kf (e := J8) h6
  have f8 := jj v4.a1 v7.a0
  obtain ⟨v11, h10, h⟩ := oS h
  have f9 := Kf (e := Jcg) h10
  obtain ⟨v14, h13, h⟩ := oS h
  have f12 := Kf (e := Jcg) h13
  obtain ⟨v17, h16, h⟩ := oS h
  have f15 := Kf (e := J8) h16
  have f18 := jj v4.a1 v17.a0
  obtain ⟨v21, h20, h⟩ := oS h
  have f19 := Kf (e := Jcg) h20
  obtain ⟨v24, h23, h⟩ := oS h
  have f22 := Kf (e := Jcg) h23
  rcases ifC h with ⟨c25, h⟩ | ⟨c25, h⟩
  ·obtain ⟨v28, h27, h⟩ := oS h
   have f26 := Kf (e := J8) h27
   obtain ⟨v31, h30, h⟩ := oS h
   have f29 := Kf (e := J8) h30
   have f32 := jj v28.a1 v31.a0
   obtain ⟨v35, h34, h⟩ := oS h
   have f33 := Kf (e := J8) h34
   have f37 := jj v35.a1 v31.a0
   cases h
   refine J0 (lf := lf87) rfl rfl rfl ?_
   simp only [lf87, lc87]
   simp [*]
  ·cases h
   refine J0 (lf := lf87) rfl rfl rfl ?_
   simp only [lf87, lc87]
   simp [*]
 ·obtain ⟨v40, h39, h⟩ := oS h
  have f38 := Kf (e := J8) h39
  have f41 := jj p0.from_ v40.a0
  obtain ⟨v44, h43, h⟩ := oS h
  have f42 := Kf (e := Jcg) h43
  obtain ⟨v47, h46, h⟩ := oS h
  have f45 := Kf (e := Jcg) h46
  obtain ⟨v50, h49, h⟩ := oS h
  have f48 := Kf (e := J8) h49
  have f51 := jj p0.from_ v50.a0
  obtain ⟨v54, h53, h⟩ := oS h
  have f52 := Kf (e := Jcg) h53
  obtain ⟨v57, h56, h⟩ := oS h
  have f55 := Kf (e := Jcg) h56
  rcases ifC h with ⟨c58, h⟩ | ⟨c58, h⟩
  ·obtain ⟨v61, h60, h⟩ := oS h
   have f59 := Kf (e := J8) h60
   obtain ⟨v64, h63, h⟩ := oS h
   have f62 := Kf (e := J8) h63
   have f65 := jj v61.a1 v64.a0
   obtain ⟨v68, h67, h⟩ := oS h
   have f66 := Kf (e := J8) h67
   have f70 := jj v68.a1 v64.a0
   cases h
   refine J0 (lf := lf87) rfl rfl rfl ?_
   simp only [lf87, lc87]
   simp [*]
  ·cases h
   refine J0 (lf := lf87) rfl rfl rfl ?_
   simp only [lf87, lc87]
   simp [*]
attribute [simp] c64_0 c64_1 c64_2 c64_3 c64_4 c64_5 c64_6 c64_7 c64_8 J6v c64_12
theorem c64_L0_u : EC Γ ps 0 Jwt σ = EC Γ ps 0 (.seq (.seq (.reg false c64_5) (.cond (.t 18) .skip (.seq (.trim [1, 9, 10]) (.exit 2)))) (.seq (.blk 3 (.seq (.reg false c64_6) (.cond (.t 24) (.seq (.reg false c64_7) (.seq (.trim [2, 3, 4]) .ret)) .skip))) (.reg false c64_8))) σ := rfl
theorem c64_L1_u : EC Γ ps 0 J17 σ = EC Γ ps 0 (.seq (.reg false c64_2) (.seq (.cond (.t 11) .skip (.seq (.trim []) (.exit 0))) (.seq (.blk 1 (.seq (.reg false c64_3) (.seq (.reg false c64_4) (.blk 2 (.loop [1, 5, 6, 9, 10] Jwt))))) (.reg false J6v)))) σ := rfl
attribute [simp ↓] c64_L0_u c64_L1_u
def jm (k0 : X2) (k1 : Int) (k2 : Int) (k3 : Int) (s : Int) : Option (LR Int ((Int × Int × Bool) ⊕ Unit)) := match s with
 | s0 => (if (ilt s0 (flen k0.a)) = true then (J6 (Jdd k0 k1 s0) fun v5 => (if v5 = true then some (.dn (.inl (k1, s0, true)))
 else some (.nx (iadd L s0 1))))
 else some (.dn (.inr ())))
def Z5 (k0 : X2) (k1 : Int) (k2 : Int) (k3 : Int) (s : Int) : St := match s with
 | s0 => ⟨fr [(1, .ptr 1 0 0), (5, I L k1), (6, I L s0), (9, I L k2), (10, I L k3)], hl [(1, .box 0 [I L k0.from_.X, I L k0.from_.Y, encF J8 k0.a, encF J8 k0.b, encF Jcg k0.ahead, encF Jcg k0.aback])]⟩
def j6 (k0 : X2) (k1 : Int) (k2 : Int) (k3 : Int) (x : ((Int × Int × Bool) ⊕ Unit)) : LE × St := match x with
 | .inl x => (.ret, ⟨fr [(2, I L x.1), (3, I L x.2.1), (4, .bool x.2.2)], hl []⟩)
 | .inr x => (.exit 2, ⟨fr [(1, .ptr 1 0 0), (9, I L k2), (10, I L k3)], hl [(1, .box 0 [I L k0.from_.X, I L k0.from_.Y, encF J8 k0.a, encF J8 k0.b, encF Jcg k0.ahead, encF Jcg k0.aback])]⟩)
theorem Jj6 {k0} {k1} {k2} {k3} {s} {r} (h : Kn (jm k0 k1 k2 k3) bigN s = some r) : LK env [] 0 [1, 5, 6, 9, 10] Jwt (some (Z5 k0 k1 k2 k3 s)) = some (j6 k0 k1 k2 k3 r) := Kh (st := Z5 k0 k1 k2 k3) (out := j6 k0 k1 k2 k3) (by
 clear h s r
 rintro s0 x h
 simp only [jm] at h
 rcases ifC h with ⟨c2, h⟩ | ⟨c2, h⟩
 ·obtain ⟨v5, h4, h⟩ := oS h
  have f3 := Jlo h4
  rcases ifC h with ⟨c6, h⟩ | ⟨c6, h⟩
  ·cases h
   simp only [Z5, j6]
   rw [Jm]
   simp [*]
  ·cases h
   simp only [Z5]
   rw [Jm]
   simp [*]
 ·cases h
  simp only [Z5, j6]
  rw [Jm]
  simp [*]) bigN s r h
def Jah (k0 : X2) (k1 : Int) (s : Int) : Option (LR Int ((Int × Int × Bool) ⊕ Unit)) := match s with
 | s0 => (if (ilt s0 k1) = true then (J6 (Kn (jm k0 s0 k1 s0) bigN s0) fun v8 => (match v8 with
 | .inl v8x => some (.dn (.inl (v8x.1, v8x.2.1, v8x.2.2)))
 | .inr v8x => some (.nx (iadd L s0 1))))
 else some (.dn (.inr ())))
def Z6 (k0 : X2) (k1 : Int) (s : Int) : St := match s with
 | s0 => ⟨fr [(1, .ptr 1 0 0), (9, I L k1), (10, I L s0)], hl [(1, .box 0 [I L k0.from_.X, I L k0.from_.Y, encF J8 k0.a, encF J8 k0.b, encF Jcg k0.ahead, encF Jcg k0.aback])]⟩
def jy (k0 : X2) (k1 : Int) (x : ((Int × Int × Bool) ⊕ Unit)) : LE × St := match x with
 | .inl x => (.ret, ⟨fr [(2, I L x.1), (3, I L x.2.1), (4, .bool x.2.2)], hl []⟩)
 | .inr x => (.exit 0, ⟨fr [], hl []⟩)
theorem Jkn {k0} {k1} {s} {r} (h : Kn (Jah k0 k1) bigN s = some r) : LK env [] 0 [1, 9, 10] J17 (some (Z6 k0 k1 s)) = some (jy k0 k1 r) := Kh (st := Z6 k0 k1) (out := jy k0 k1) (by
 clear h s r
 rintro s0 x h
 simp only [Jah] at h
 rcases ifC h with ⟨c1, h⟩ | ⟨c1, h⟩
 ·obtain ⟨v8, h7, h⟩ := oS h
  have f9 := Jj6 h7
  cases v8 with
  | inl v8x =>
   try simp only at h
   simp only [Z5, j6, J5] at f9
   try simp only [Jg, Jh, Jk, Jr, Ju, Jt, Js, Jv] at f9
   cases h
   simp only [Z6, jy]
   rw [Jm]
   try simp only [c1] at f9
   simp [*]
  | inr v8x =>
   try simp only at h
   simp only [Z5, j6, J5] at f9
   try simp only [Jg, Jh, Jk, Jr, Ju, Jt, Js, Jv] at f9
   cases h
   simp only [Z6]
   rw [Jm]
   try simp only [c1] at f9
   simp [*]
 ·cases h
  simp only [Z6, jy]
  rw [Jm]
  simp [*]) bigN s r h
def Jcv (p0 : X2) : Option (Int × Int × Bool) := (J6 (Kn (Jah p0 (flen p0.a)) bigN 0) fun v11 => (match v11 with
 | .inl v11x => some (v11x.1, v11x.2.1, v11x.2.2)
 | .inr v11x => some (0, 0, false)))
theorem Jha {p0} {r} (h : Jcv p0 = some r) : FC env 64 [.agg [I L p0.from_.X, I L p0.from_.Y, encF J8 p0.a, encF J8 p0.b, encF Jcg p0.ahead, encF Jcg p0.aback]] none = some (.tup [I L r.1, I L r.2.1, .bool r.2.2], fun _ => none) := by
 unfold Jcv at h
 obtain ⟨v13, h12, h⟩ := oS h
 have f14 := Jkn h12
 cases v13 with
 | inl v13x =>
  try simp only at h
  simp only [Z6, jy, J5] at f14
  try simp only [Jg, Jh, Jk, Jr, Ju, Jt, Js, Jv] at f14
  cases h
  refine J0 (lf := lf64) rfl rfl rfl ?_
  simp only [lf64, lc64]
  simp [*, Q4, tupS, Qm, K5, Qo, K4, Qq]
 | inr v13x =>
  try simp only at h
  simp only [Z6, jy, J5] at f14
  try simp only [Jg, Jh, Jk, Jr, Ju, Jt, Js, Jv] at f14
  cases h
  refine J0 (lf := lf64) rfl rfl rfl ?_
  simp only [lf64, lc64]
  simp [*, Q4, tupS, Qm, K5, Qo, K4, Qq]
attribute [simp] c37_0 c37_1 c37_2 c37_3 c37_4 c37_5 c37_6 c37_7 c37_8 c37_9 J86 J9t J19 J52 J01 J6e J3g J5n c37_21
theorem c37_L0_u : EC Γ ps 0 Jwy σ = EC Γ ps 0 (.seq (.seq (.reg false c37_9) (.cond (.t 40) .skip (.seq (.trim [3, 7, 8, 9, 10]) (.exit 2)))) (.seq (.blk 3 (.reg true J86)) (.reg false J9t))) σ := rfl
theorem c37_L1_u : EC Γ ps 0 Jxw σ = EC Γ ps 0 (.seq (.seq (.reg false J52) (.cond (.t 62) .skip (.seq (.trim [3, 7, 8]) (.exit 4)))) (.seq (.blk 5 (.seq (.reg false J01) (.cond (.t 70) (.reg false J6e) .skip))) (.reg false J3g))) σ := rfl
theorem c37_L2_u : EC Γ ps 0 J46 σ = EC Γ ps 0 (.seq (.seq (.reg false c37_5) (.cond (.t 23) .skip (.seq (.trim [7]) (.exit 0)))) (.seq (.blk 1 (.seq (.reg false c37_6) (.seq (.seq (.reg false c37_7) (.cond (.t 35) (.seq (.trim [7]) (.exit 0)) .skip)) (.seq (.seq (.reg false c37_8) (.blk 2 (.loop [3, 7, 8, 9, 10, 12, 13] Jwy))) (.seq (.reg false J19) (.blk 4 (.loop [3, 7, 8, 10, 14] Jxw))))))) (.reg false J5n))) σ := rfl
attribute [simp ↓] c37_L0_u c37_L1_u c37_L2_u
def Jbi (k0 : Ja) (k1 : Int) (k2 : Int) (k3 : Int) (s : ((FS Jb) × Int × Int)) : Option (LR ((FS Jb) × Int × Int) (FS Jb)) := match s with
 | (s0, s1, s2) => (if (ilt s1 s2) = true then (J6 (fget s0 s2) fun v17 => (J6 (fget s0 s1) fun v21 => (J6 (fget (fset s0 s1 v17) s2) fun v28 => some (.nx ((fset (fset s0 s1 v17) s2 v21), (iadd L s1 1), (isub L s2 1))))))
 else some (.dn s0))
def zk (k0 : Ja) (k1 : Int) (k2 : Int) (k3 : Int) (s : ((FS Jb) × Int × Int)) : St := match s with
 | (s0, s1, s2) => (Jat s0 (⟨fr [(3, .ptr 3 0 0), (7, .nils), (8, I L k1), (9, I L k2), (10, I L k3), (12, I L s1), (13, I L s2)], hl [(3, .box 0 [I L k0.X, I L k0.Y])]⟩)
  (fun l0 => ⟨fr [(3, .ptr 3 0 0), (7, .arr 7 0 0 l0.l.length), (8, I L k1), (9, I L k2), (10, I L k3), (12, I L s1), (13, I L s2)], hl [(3, .box 0 [I L k0.X, I L k0.Y]), (7, .arr 0 3 42 (Jn Jc l0.l) false)]⟩))
def Jan (k0 : Ja) (k1 : Int) (k2 : Int) (k3 : Int) (x : (FS Jb)) : LE × St := (Jat x (.exit 2, ⟨fr [(3, .ptr 3 0 0), (7, .nils), (8, I L k1), (9, I L k2), (10, I L k3)], hl [(3, .box 0 [I L k0.X, I L k0.Y])]⟩)
  (fun l0 => (.exit 2, ⟨fr [(3, .ptr 3 0 0), (7, .arr 7 0 0 l0.l.length), (8, I L k1), (9, I L k2), (10, I L k3)], hl [(3, .box 0 [I L k0.X, I L k0.Y]), (7, .arr 0 3 42 (Jn Jc l0.l) false)]⟩)))
theorem Jgo {k0} {k1} {k2} {k3} {s} {r} (h : Kn (Jbi k0 k1 k2 k3) bigN s = some r) : LK env [] 0 [3, 7, 8, 9, 10, 12, 13] Jwy (some (zk k0 k1 k2 k3 s)) = some (Jan k0 k1 k2 k3 r) := Kh (st := zk k0 k1 k2 k3) (out := Jan k0 k1 k2 k3) (by
 clear h s r
 rintro ⟨s0, s1, s2⟩ x h
 simp only [Jbi] at h
 cases e25 : s0 with
 | nil =>
  try simp only [e25, Jx] at h
  rcases ifC h with ⟨c26, h⟩ | ⟨c26, h⟩
  ·exact absurd h (by simp [Jez])
  ·cases h
   simp only [zk, Jan, e25]
   rw [Jm]
   simp [*]
 | lst l24 =>
  try simp only [e25] at h
  rcases ifC h with ⟨c27, h⟩ | ⟨c27, h⟩
  ·obtain ⟨v31, h30, h⟩ := oS h
   have f28 := Xm (w := 3) h30
   have f29 := h30
   have f32 := (Zb (e := Jc) f29 true 3 (by decide) (by decide))
   simp only [Jc] at f32
   obtain ⟨v36, h35, h⟩ := oS h
   have f33 := Xm (w := 3) h35
   have f34 := h35
   have f37 := (Zb (e := Jc) f34 true 3 (by decide) (by decide))
   simp only [Jc] at f37
   have f40 := @Jf9 _ _ Jc _ (FS.lst l24) s1 v36 v31 f34 [I L v31.Role, .bool v31.Closed, encF Jf v31.Cells] (by simp) (by simp [Jc])
   have f41 := Jmp (w := 3) f34 3 (by decide)
   try simp at f41
   obtain ⟨v45, h44, h⟩ := oS h
   have f42 := Xm (w := 3) h44
   try simp only [J5] at f42
   have f43 := h44
   have f46 := @Jf9 _ _ Jc _ (fset (FS.lst l24) s1 v31) s2 v45 v36 f43 [I L v36.Role, .bool v36.Closed, encF Jf v36.Cells] (by simp) (by simp [Jc])
   have f47 := Jmp (w := 3) f43 3 (by decide)
   try simp at f47
   cases h
   simp only [zk, e25]
   rw [Jm]
   simp [*]
  ·cases h
   simp only [zk, Jan, e25]
   rw [Jm]
   simp [*]) bigN s r h
def Jal (k0 : Ja) (k1 : Int) (k2 : Int) (s : ((FS Jb) × Int)) : Option (LR ((FS Jb) × Int) (FS Jb)) := match s with
 | (s0, s1) => (if (ile s1 k2) = true then (J6 (fget s0 s1) fun v37 => (if (bnot v37.Closed) = true then (J6 (Jdv v37) fun v44 => some (.nx ((fset s0 s1 v44), (iadd L s1 1))))
 else some (.nx (s0, (iadd L s1 1)))))
 else some (.dn s0))
def Xl (k0 : Ja) (k1 : Int) (k2 : Int) (s : ((FS Jb) × Int)) : St := match s with
 | (s0, s1) => (Jat s0 (⟨fr [(3, .ptr 3 0 0), (7, .nils), (8, I L k1), (10, I L k2), (14, I L s1)], hl [(3, .box 0 [I L k0.X, I L k0.Y])]⟩)
  (fun l0 => ⟨fr [(3, .ptr 3 0 0), (7, .arr 7 0 0 l0.l.length), (8, I L k1), (10, I L k2), (14, I L s1)], hl [(3, .box 0 [I L k0.X, I L k0.Y]), (7, .arr 0 3 42 (Jn Jc l0.l) false)]⟩))
def Y1 (k0 : Ja) (k1 : Int) (k2 : Int) (x : (FS Jb)) : LE × St := (Jat x (.exit 4, ⟨fr [(3, .ptr 3 0 0), (7, .nils), (8, I L k1)], hl [(3, .box 0 [I L k0.X, I L k0.Y])]⟩)
  (fun l0 => (.exit 4, ⟨fr [(3, .ptr 3 0 0), (7, .arr 7 0 0 l0.l.length), (8, I L k1)], hl [(3, .box 0 [I L k0.X, I L k0.Y]), (7, .arr 0 3 42 (Jn Jc l0.l) false)]⟩)))
theorem Jdf {k0} {k1} {k2} {s} {r} (h : Kn (Jal k0 k1 k2) bigN s = some r) : LK env [] 0 [3, 7, 8, 10, 14] Jxw (some (Xl k0 k1 k2 s)) = some (Y1 k0 k1 k2 r) := Kh (st := Xl k0 k1 k2) (out := Y1 k0 k1 k2) (by
 clear h s r
 rintro ⟨s0, s1⟩ x h
 simp only [Jal] at h
 cases e55 : s0 with
 | nil =>
  try simp only [e55, Jx] at h
  rcases ifC h with ⟨c56, h⟩ | ⟨c56, h⟩
  ·exact absurd h (by simp [Jez])
  ·cases h
   simp only [Xl, Y1, e55]
   rw [Jm]
   simp [*]
 | lst l54 =>
  try simp only [e55] at h
  rcases ifC h with ⟨c57, h⟩ | ⟨c57, h⟩
  ·obtain ⟨v61, h60, h⟩ := oS h
   have f58 := Xm (w := 3) h60
   have f59 := h60
   have f62 := (Jpa (e := Jc) f59 false 1 1 (by decide) (by decide))
   simp only [Jc] at f62
   rcases ifC h with ⟨c63, h⟩ | ⟨c63, h⟩
   ·have f66 := (Zb (e := Jc) f59 true 3 (by decide) (by decide))
    simp only [Jc] at f66
    obtain ⟨v69, h68, h⟩ := oS h
    have f67 := Jiv h68
    have f72 := @Jf9 _ _ Jc _ (FS.lst l54) s1 v61 v69 f59 [I L v69.Role, .bool v69.Closed, encF Jf v69.Cells] (by simp) (by simp [Jc])
    have f73 := Jmp (w := 3) f59 3 (by decide)
    try simp at f73
    cases h
    simp only [Xl, e55]
    rw [Jm]
    rcases tof v61.Closed with a74 | a74
    ·simp [c57, a74] at c63
    ·try simp only [a74] at f58 f62 f66 f67 f72 f73
     simp [*]
   ·cases h
    simp only [Xl, e55]
    rw [Jm]
    rcases tof v61.Closed with a75 | a75
    ·try simp only [a75] at f58 f62
     simp [*]
    ·simp [c57, a75] at c63
  ·cases h
   simp only [Xl, Y1, e55]
   rw [Jm]
   simp [*]) bigN s r h
def Jam (k0 : Ja) (s : ((FS Jb) × Int)) : Option (LR ((FS Jb) × Int) (FS Jb)) := match s with
 | (s0, s1) => (if (igt s1 0) = true then (J6 (Jc4 k0 s0) fun v8 => (if ieq (flen v8.2) (flen s0) = true then (J6 (Jcv v8.1) fun v12 => (if (bnot v12.2.2) = true then some (.dn v8.2)
 else (J6 (Kn (Jbi k0 s1 v12.1 v12.2.1) bigN (v8.2, v12.1, v12.2.1)) fun v32 => (J6 (Kn (Jal k0 s1 v12.2.1) bigN (v32, v12.1)) fun v49 => some (.nx (v49, (isub L s1 1))))))) else none))
 else some (.dn s0))
def Kt (k0 : Ja) (s : ((FS Jb) × Int)) : St := match s with
 | (s0, s1) => (Jat s0 (⟨fr [(3, .ptr 3 0 0), (7, .nils), (8, I L s1)], hl [(3, .box 0 [I L k0.X, I L k0.Y])]⟩)
  (fun l0 => ⟨fr [(3, .ptr 3 0 0), (7, .arr 7 0 0 l0.l.length), (8, I L s1)], hl [(3, .box 0 [I L k0.X, I L k0.Y]), (7, .arr 0 3 42 (Jn Jc l0.l) false)]⟩))
def Y2 (k0 : Ja) (x : (FS Jb)) : LE × St := (Jat x (.exit 0, ⟨fr [(7, .nils)], hl []⟩)
  (fun l0 => (.exit 0, ⟨fr [(7, .arr 7 0 0 l0.l.length)], hl [(7, .arr 0 3 42 (Jn Jc l0.l) false)]⟩)))
theorem Jgj {k0} {s} {r} (h : Kn (Jam k0) bigN s = some r) : LK env [] 0 [3, 7, 8] J46 (some (Kt k0 s)) = some (Y2 k0 r) := Kh (st := Kt k0) (out := Y2 k0) (by
 clear h s r
 rintro ⟨s0, s1⟩ x h
 simp only [Jam] at h
 cases e11 : s0 with
 | nil =>
  try simp only [e11, Jx] at h
  rcases ifC h with ⟨c12, h⟩ | ⟨c12, h⟩
  ·obtain ⟨v14, h13, h⟩ := oS h
   obtain ⟨f15, e16⟩ := Jmo h13
   simp only [e16, Jx] at h
   try simp only [J5, Ka, Jg, Jh, Jk, Jr, Ju, Jt, Js, Jv] at f15
   obtain ⟨h17, h⟩ := ifS h
   try simp only [Jg, Jh, Jk, Jr, Ju, Jt, Js, Jv] at f15
   obtain ⟨v21, h20, h⟩ := oS h
   have f19 := Jha h20
   rcases ifC h with ⟨c22, h⟩ | ⟨c22, h⟩
   ·cases h
    simp only [Kt, Y2, e11]
    rw [Jm]
    rcases tof v21.2.2 with a23 | a23
    ·simp [c12, a23] at c22
    ·try simp only [c12, a23] at f15
     simp [*]
   ·obtain ⟨v49, h48, h⟩ := oS h
    have f50 := Jgo h48
    simp only [zk, Jan, J5] at f50
    cases e53 : v49 with
    | nil =>
     try simp only [e53, Jx] at h
     simp only [e53, Jx, Jg, Jh] at f50
     obtain ⟨v77, h76, h⟩ := oS h
     have f78 := Jdf h76
     simp only [Xl, Y1, J5] at f78
     cases e81 : v77 with
     | nil =>
      try simp only [e81, Jx] at h
      simp only [e81, Jx, Jg, Jh] at f78
      cases h
      simp only [Kt, e11]
      rw [Jm]
      rcases tof v21.2.2 with a82 | a82
      ·try simp only [c12, a82] at f15 f50 f78
       simp [*]
      ·simp [c12, a82] at c22
     | lst l80 =>
      try simp only [e81] at h
      simp only [e81, Jx, Jg, Jh] at f78
      cases h
      simp only [Kt, e11]
      rw [Jm]
      rcases tof v21.2.2 with a83 | a83
      ·try simp only [c12, a83] at f15 f50 f78
       simp [*]
      ·simp [c12, a83] at c22
    | lst l52 =>
     try simp only [e53] at h
     simp only [e53, Jx, Jg, Jh] at f50
     obtain ⟨v85, h84, h⟩ := oS h
     have f86 := Jdf h84
     simp only [Xl, Y1, J5] at f86
     cases e89 : v85 with
     | nil =>
      try simp only [e89, Jx] at h
      simp only [e89, Jx, Jg, Jh] at f86
      cases h
      simp only [Kt, e11]
      rw [Jm]
      rcases tof v21.2.2 with a90 | a90
      ·try simp only [c12, a90] at f15 f50 f86
       simp [*]
      ·simp [c12, a90] at c22
     | lst l88 =>
      try simp only [e89] at h
      simp only [e89, Jx, Jg, Jh] at f86
      cases h
      simp only [Kt, e11]
      rw [Jm]
      rcases tof v21.2.2 with a91 | a91
      ·try simp only [c12, a91] at f15 f50 f86
       simp [*]
      ·simp [c12, a91] at c22
  ·cases h
   simp only [Kt, Y2, e11]
   rw [Jm]
   simp [*]
 | lst l10 =>
  try simp only [e11] at h
  rcases ifC h with ⟨c92, h⟩ | ⟨c92, h⟩
  ·obtain ⟨v94, h93, h⟩ := oS h
   obtain ⟨f95, e96⟩ := Jm9 h93
   simp only [e96] at f95
   try simp only [e96] at h
   try simp only [J5, Ka, Jg, Jh, Jk, Jr, Ju, Jt, Js, Jv] at f95
   obtain ⟨h97, h⟩ := ifS h
   try simp only [Jg, Jh, Jk, Jr, Ju, Jt, Js, Jv] at f95
   have f99 : ∀ H : Heap, H 7 = some (.arr 0 3 42 (Jn Jc (FS.lst l10).l) false) → Jcc (FC env) 63 H [.agg [I L k0.X, I L k0.Y], .arr 7 0 0 (FS.lst l10).l.length] = some (.agg [I L v94.1.from_.X, I L v94.1.from_.Y, encF J8 v94.1.a, encF J8 v94.1.b, encF Jcg v94.1.ahead, encF Jcg v94.1.aback], upd H 7 (some (.arr 0 3 42 (Jn Jc (FS.lst l10).l) false))) := by
     intro H q0
     simp [*, q0]
   obtain ⟨v102, h101, h⟩ := oS h
   have f100 := Jha h101
   rcases ifC h with ⟨c103, h⟩ | ⟨c103, h⟩
   ·cases h
    simp only [Kt, Y2, e11]
    rw [Jm]
    rcases tof v102.2.2 with a104 | a104
    ·simp [c92, a104] at c103
    ·try simp only [c92, a104] at f95
     simp [*, -Q6]
   ·obtain ⟨v106, h105, h⟩ := oS h
    have f107 := Jgo h105
    simp only [zk, Jan, J5] at f107
    cases e110 : v106 with
    | nil =>
     try simp only [e110, Jx] at h
     simp only [e110, Jx, Jg, Jh] at f107
     obtain ⟨v112, h111, h⟩ := oS h
     have f113 := Jdf h111
     simp only [Xl, Y1, J5] at f113
     cases e116 : v112 with
     | nil =>
      try simp only [e116, Jx] at h
      simp only [e116, Jx, Jg, Jh] at f113
      cases h
      simp only [Kt, e11]
      rw [Jm]
      rcases tof v102.2.2 with a117 | a117
      ·try simp only [c92, a117] at f95 f107 f113
       simp [*, -Q6]
      ·simp [c92, a117] at c103
     | lst l115 =>
      try simp only [e116] at h
      simp only [e116, Jx, Jg, Jh] at f113
      cases h
      simp only [Kt, e11]
      rw [Jm]
      rcases tof v102.2.2 with a118 | a118
      ·try simp only [c92, a118] at f95 f107 f113
       simp [*, -Q6]
      ·simp [c92, a118] at c103
    | lst l109 =>
     try simp only [e110] at h
     simp only [e110, Jx, Jg, Jh] at f107
     obtain ⟨v120, h119, h⟩ := oS h
     have f121 := Jdf h119
     simp only [Xl, Y1, J5] at f121
     cases e124 : v120 with
     | nil =>
      try simp only [e124, Jx] at h
      simp only [e124, Jx, Jg, Jh] at f121
      cases h
      simp only [Kt, e11]
      rw [Jm]
      rcases tof v102.2.2 with a125 | a125
      ·try simp only [c92, a125] at f95 f107 f121
       simp [*, -Q6]
      ·simp [c92, a125] at c103
     | lst l123 =>
      try simp only [e124] at h
      simp only [e124, Jx, Jg, Jh] at f121
      cases h
      simp only [Kt, e11]
      rw [Jm]
      rcases tof v102.2.2 with a126 | a126
      ·try simp only [c92, a126] at f95 f107 f121
       simp [*, -Q6]
      ·simp [c92, a126] at c103
  ·cases h
   simp only [Kt, Y2, e11]
   rw [Jm]
   simp [*]) bigN s r h
def Jdw (p0 : Ja) (p1 : (FS Jb)) (p2 : Int) : Option (FS Jb) := (if (bnot (Xj p0)) = true then some (FS.nil : (FS Jb))
 else (J6 (Jey p1) fun v4 => (J6 (Kn (Jam p0) bigN (v4, (imin p2 64))) fun v52 => some v52)))
theorem Jiy {p0} {p1} {p2} {r} (h : Jdw p0 p1 p2 = some r) : FC env 37 [.agg [I L p0.X, I L p0.Y], encF Jc p1, I L p2] none = some (encF Jc r, fun _ => none) := by
 unfold Jdw at h
 have f1 := Jju p0
 rcases ifC h with ⟨c2, h⟩ | ⟨c2, h⟩
 ·cases h
  refine J0 (lf := lf37) rfl rfl rfl ?_
  simp only [lf37, lc37]
  rcases tof (Xj p0) with a3 | a3
  ·simp [a3] at c2
  ·simp [*]
 ·obtain ⟨v5, h4, h⟩ := oS h
  have f6 := Jkt h4
  cases e8 : v5 with
  | nil =>
   try simp only [e8, Jx] at h
   simp only [e8, Jx, Jg, Jh] at f6
   have f9 : ∀ H : Heap, Jcc (FC env) 62 H [encF Jc p1] = some (.nils, H) := by
     intro H 
     simp [*]
   obtain ⟨v128, h127, h⟩ := oS h
   have f129 := Jgj h127
   simp only [Kt, Y2, J5] at f129
   cases e132 : v128 with
   | nil =>
    try simp only [e132, Jx] at h
    simp only [e132, Jx, Jg, Jh] at f129
    cases h
    refine J0 (lf := lf37) rfl rfl rfl ?_
    simp only [lf37, lc37]
    rcases tof (Xj p0) with a133 | a133
    ·try simp only [a133] at f6 f129
     simp [*, -Q6]
    ·simp [a133] at c2
   | lst l131 =>
    try simp only [e132] at h
    simp only [e132, Jx, Jg, Jh] at f129
    cases h
    refine J0 (lf := lf37) rfl rfl rfl ?_
    simp only [lf37, lc37]
    rcases tof (Xj p0) with a134 | a134
    ·try simp only [a134] at f6 f129
     simp [*, -Q6, Kq (e := Jc) (el := 42) (fz := false)]
    ·simp [a134] at c2
  | lst l7 =>
   try simp only [e8] at h
   simp only [e8, Jx, Jg, Jh] at f6
   have f135 : ∀ H : Heap, H 701062000 = none → Jcc (FC env) 62 H [encF Jc p1] = some (.arr 701062000 0 0 (FS.lst l7).l.length, upd H 701062000 (some (.arr 0 3 42 (Jn Jc (FS.lst l7).l) false))) := by
     intro H q0
     simp [*, q0]
   obtain ⟨v137, h136, h⟩ := oS h
   have f138 := Jgj h136
   simp only [Kt, Y2, J5] at f138
   cases e141 : v137 with
   | nil =>
    try simp only [e141, Jx] at h
    simp only [e141, Jx, Jg, Jh] at f138
    cases h
    refine J0 (lf := lf37) rfl rfl rfl ?_
    simp only [lf37, lc37]
    rcases tof (Xj p0) with a142 | a142
    ·try simp only [a142] at f6 f138
     simp [*, -Q6]
    ·simp [a142] at c2
   | lst l140 =>
    try simp only [e141] at h
    simp only [e141, Jx, Jg, Jh] at f138
    cases h
    refine J0 (lf := lf37) rfl rfl rfl ?_
    simp only [lf37, lc37]
    rcases tof (Xj p0) with a143 | a143
    ·try simp only [a143] at f6 f138
     simp [*, -Q6, Kq (e := Jc) (el := 42) (fz := false)]
    ·simp [a143] at c2
attribute [simp] c70_0 c70_1
def jw (p0 : Jo) (p1 : Int) : Option Int := (if ieq p0.s.Pitch 0 = true then none else some (imax (iquo L p1 p0.s.Pitch) 1))
theorem zq {p0} {p1} {r} (h : jw p0 p1 = some r) : FC env 70 [.rptr [encF Jw p0.list.ops, encF Jq p0.r.Rows, I L p0.s.Pitch, I L p0.s.Height, I L p0.s.Walls, I L p0.s.Top, I L p0.s.Bottom, I L p0.s.Pattern, I L p0.s.Spacing, .bool p0.s.Support, I L p0.s.Reach, I L p0.s.Gap, I L p0.s.Brim, I L p0.s.Skirt, I L p0.s.Drop, I L p0.s.Feed, I L p0.s.Travel, I L p0.s.Retract, I L p0.s.MinTime, I L p0.s.MinFeed, I L p0.s.Nozzle, I L p0.s.Bed, I L p0.nozzle.X, I L p0.nozzle.Y], I L p1] none = some (I L r, fun _ => none) := by
 unfold jw at h
 obtain ⟨h1, h⟩ := ifN h
 cases h
 refine J0 (lf := lf70) rfl rfl rfl ?_
 simp only [lf70, lc70]
 simp [*]
attribute [simp] c108_0 c108_1
def Jem (p0 : Int) : Bool := (ine p0 p0)
def t_cmp_isNaN (p0 : Int) : Option Bool := some (Jem p0)
theorem Jl2 (p0 : Int) : FC env 108 [I L p0] none = some (.bool (Jem p0), fun _ => none) := by
 unfold Jem
 refine J0 (lf := lf108) rfl rfl rfl ?_
 simp only [lf108, lc108]
 simp
attribute [simp] c106_0 c106_1 c106_2 c106_3 c106_4 c106_5 c106_6 c106_7 c106_8 c106_9 J23 J5x J5m J4o
def Jfx (p0 : Int) (p1 : Int) : Option Int := (if (Jem p0) = true then (if (Jem p1) = true then some 0
 else some (-1))
 else (if (Jem p1) = true then some 1
 else (if (ilt p0 p1) = true then some (-1)
 else (if (igt p0 p1) = true then some 1
 else some 0))))
theorem Jow {p0} {p1} {r} (h : Jfx p0 p1 = some r) : FC env 106 [I L p0, I L p1] none = some (I L r, fun _ => none) := by
 unfold Jfx at h
 have f1 := Jl2 p0
 have f2 := Jl2 p1
 rcases ifC h with ⟨c3, h⟩ | ⟨c3, h⟩
 ·rcases ifC h with ⟨c4, h⟩ | ⟨c4, h⟩
  ·cases h
   refine J0 (lf := Jmy) rfl rfl rfl ?_
   simp only [Jmy, Jwc]
   simp [*]
  ·cases h
   refine J0 (lf := Jmy) rfl rfl rfl ?_
   simp only [Jmy, Jwc]
   simp [*]
 ·rcases ifC h with ⟨c5, h⟩ | ⟨c5, h⟩
  ·cases h
   refine J0 (lf := Jmy) rfl rfl rfl ?_
   simp only [Jmy, Jwc]
   simp [*]
  ·rcases ifC h with ⟨c6, h⟩ | ⟨c6, h⟩
   ·cases h
    refine J0 (lf := Jmy) rfl rfl rfl ?_
    simp only [Jmy, Jwc]
    simp [*]
   ·rcases ifC h with ⟨c7, h⟩ | ⟨c7, h⟩
    ·cases h
     refine J0 (lf := Jmy) rfl rfl rfl ?_
     simp only [Jmy, Jwc]
     simp [*]
    ·cases h
     refine J0 (lf := Jmy) rfl rfl rfl ?_
     simp only [Jmy, Jwc]
     simp [*]
attribute [simp] c105_0 c105_1
def Jd8 (p0 : Jaf) (p1 : Int) : Option Int := (J6 (Jfx p0.Y p1) fun v3 => some v3)
theorem Jjo {p0} {p1} {r} (h : Jd8 p0 p1 = some r) : FC env 105 [.agg [I L p0.Y, encF Xn p0.Runs], I L p1] none = some (I L r, fun _ => none) := by
 unfold Jd8 at h
 obtain ⟨v3, h2, h⟩ := oS h
 have f1 := Jow h2
 cases h
 refine J0 (lf := lf105) rfl rfl rfl ?_
 simp only [lf105, lc105]
 simp [*]
attribute [simp] c104_0 c104_1 c104_2 J2t J3b J8u J3h J6c c104_9
theorem J2s (Γ : Env) (ps : List Nat) (σ : St) : EC Γ ps 0 Jvl σ = EC Γ ps 0 (.seq (.seq (.reg false J2t) (.cond (.t 17) .skip (.seq (.trim [0, 1, 2, 8, 9]) (.exit 0)))) (.blk 1 (.seq (.reg false J3b) (.seq (.reg false J8u) (.cond (.t 31) (.reg false J3h) (.reg false J6c)))))) σ := rfl
attribute [simp ↓] J2s
def Kc (k0 : (FS Jaf)) (k1 : Int) (k2 : Int) (s : (Int × Int)) : Option (LR (Int × Int) Int) := match s with
 | (s0, s1) => (if (ilt s0 s1) = true then (J6 (fget k0 (icnv L (ishr .u64 (icnv .u64 (iadd L s0 s1)) 1))) fun v4 => (J6 (Jd8 v4 k1) fun v7 => (if (ilt v7 0) = true then some (.nx ((iadd L (icnv L (ishr .u64 (icnv .u64 (iadd L s0 s1)) 1)) 1), s1))
 else some (.nx (s0, (icnv L (ishr .u64 (icnv .u64 (iadd L s0 s1)) 1)))))))
 else some (.dn s0))
def Kd (k0 : (FS Jaf)) (k1 : Int) (k2 : Int) (s : (Int × Int)) : St := match s with
 | (s0, s1) => ⟨fr [(0, encF Jq k0), (1, I L k1), (2, .fn 105 []), (8, I L k2), (9, I L s0), (10, I L s1)], hl []⟩
def Ks (k0 : (FS Jaf)) (k1 : Int) (k2 : Int) (x : Int) : LE × St := (.exit 0, ⟨fr [(0, encF Jq k0), (1, I L k1), (2, .fn 105 []), (8, I L k2), (9, I L x)], hl []⟩)
theorem Jbb {k0} {k1} {k2} {s} {r} (h : Kn (Kc k0 k1 k2) bigN s = some r) : LK env [] 0 [0, 1, 2, 8, 9, 10] Jvl (some (Kd k0 k1 k2 s)) = some (Ks k0 k1 k2 r) := Kh (st := Kd k0 k1 k2) (out := Ks k0 k1 k2) (by
 clear h s r
 rintro ⟨s0, s1⟩ x h
 simp only [Kc] at h
 rcases ifC h with ⟨c1, h⟩ | ⟨c1, h⟩
 ·obtain ⟨v4, h3, h⟩ := oS h
  have f2 := Kf (e := Jq) h3
  obtain ⟨v7, h6, h⟩ := oS h
  have f5 := Jjo h6
  rcases ifC h with ⟨c8, h⟩ | ⟨c8, h⟩
  ·cases h
   simp only [Kd]
   rw [Jm]
   simp [*, (show ilt 1 0 = false from rfl)]
  ·cases h
   simp only [Kd]
   rw [Jm]
   simp [*, (show ilt 1 0 = false from rfl)]
 ·cases h
  simp only [Kd, Ks]
  rw [Jm]
  simp [*]) bigN s r h
def Kp (p0 : (FS Jaf)) (p1 : Int) : Option (Int × Bool) := (J6 (Kn (Kc p0 p1 (flen p0)) bigN (0, (flen p0))) fun v10 => (J6 (gOpt (ilt v10 (flen p0)) (fget p0 v10)) fun v14 => (J6 (gOpt (ilt v10 (flen p0)) (Jd8 (v14.getD (⟨0, (FS.nil : (FS Kk))⟩ : Jaf)) p1)) fun v17 => some (v10, (band (ilt v10 (flen p0)) (ieq (v17.getD 0) 0))))))
theorem Jbw {p0} {p1} {r} (h : Kp p0 p1 = some r) : FC env 104 [encF Jq p0, I L p1, .fn 105 []] none = some (.tup [I L r.1, .bool r.2], fun _ => none) := by
 unfold Kp at h
 obtain ⟨v10, h9, h⟩ := oS h
 have f11 := Jbb h9
 simp only [Kd, Ks, J5] at f11
 try simp only [Jg, Jh, Jk, Jr, Ju, Jt, Js, Jv] at f11
 obtain ⟨v15, h14, h⟩ := oS h
 have f13 := fun (q0 : (ilt v10 (flen p0)) = true) => Kf (e := Jq) (Qp (⟨0, (FS.nil : (FS Kk))⟩ : Jaf) h14 q0)
 obtain ⟨v18, h17, h⟩ := oS h
 have f16 := fun (q0 : (ilt v10 (flen p0)) = true) => Jjo (Qp 0 h17 q0)
 cases h
 refine J0 (lf := lf104) rfl rfl rfl ?_
 simp only [lf104, lc104]
 rcases tof (ilt v10 (flen p0)) with a19 | a19
 ·try simp only [a19] at f11
  simp [*, Q4, tupS, Qm, K5, Qo, K4, Qq]
 ·try simp only [a19] at f11
  simp [*, Q4, tupS, Qm, K5, Qo, K4, Qq]
attribute [simp] c101_0 c101_1 c101_2 c101_3 c101_4
def Jgi (p0 : Jl) (p1 : Int) : Option (FS Kk) := (J6 (Kp p0.Rows p1) fun v3 => (if (bnot v3.2) = true then some (FS.nil : (FS Kk))
 else (J6 (fget p0.Rows v3.1) fun v7 => some v7.Runs)))
theorem Jpw {p0} {p1} {r} (h : Jgi p0 p1 = some r) : FC env 101 [.agg [encF Jq p0.Rows], I L p1] none = some (encF Xn r, fun _ => none) := by
 unfold Jgi at h
 obtain ⟨v3, h2, h⟩ := oS h
 have f1 := Jbw h2
 rcases ifC h with ⟨c4, h⟩ | ⟨c4, h⟩
 ·cases h
  refine J0 (lf := Jz7) rfl rfl rfl ?_
  simp only [Jz7, lc101]
  rcases tof v3.2 with a5 | a5
  ·simp [a5] at c4
  ·simp [*]
 ·obtain ⟨v8, h7, h⟩ := oS h
  have f6 := Kf (e := Jq) h7
  cases h
  refine J0 (lf := Jz7) rfl rfl rfl ?_
  simp only [Jz7, lc101]
  rcases tof v3.2 with a9 | a9
  ·simp [*]
  ·simp [a9] at c4
attribute [simp] c103_0 c103_1
def Jb3 (p0 : Kk) (p1 : Int) : Bool := (band (ile p0.From p1) (ilt p1 p0.To))
def Jzb (p0 : Kk) (p1 : Int) : Option Bool := some (Jb3 p0 p1)
theorem Jl0 (p0 : Kk) (p1 : Int) : FC env 103 [.agg [I L p0.From, I L p0.To], .rptr [I L p1]] none = some (.bool (Jb3 p0 p1), fun _ => none) := by
 unfold Jb3
 refine J0 (lf := lf103) rfl rfl rfl ?_
 simp only [lf103, lc103]
 rcases tof (ile p0.From p1) with a1 | a1
 ·simp [*]
 ·simp [*]
attribute [simp] c107_0 c107_1 J5v J0z J66 J04 J6q c107_8
theorem J34 (Γ : Env) (ps : List Nat) (σ : St) : EC Γ ps 0 Jvt σ = EC Γ ps 0 (.seq (.reg false J5v) (.seq (.cond (.t 9) .skip (.seq (.trim []) (.exit 0))) (.seq (.blk 1 (.seq (.reg false J0z) (.seq (.reg false J66) (.cond (.t 16) (.seq (.reg false J04) (.seq (.trim [4]) .ret)) .skip)))) (.reg false J6q)))) σ := rfl
attribute [simp ↓] J34
def Ko (k0 : (FS Kk)) (k1 : Int) (k2 : Int) (s : Int) : Option (LR Int (Int ⊕ Unit)) := match s with
 | s0 => (if (ilt s0 k2) = true then (J6 (fget k0 s0) fun v4 => (if (Jb3 v4 k1) = true then some (.dn (.inl s0))
 else some (.nx (iadd L s0 1))))
 else some (.dn (.inr ())))
def Ke (k0 : (FS Kk)) (k1 : Int) (k2 : Int) (s : Int) : St := match s with
 | s0 => ⟨fr [(0, encF Xn k0), (1, .fn 103 [.rptr [I L k1]]), (7, I L k2), (8, I L s0)], hl []⟩
def Ki (k0 : (FS Kk)) (k1 : Int) (k2 : Int) (x : (Int ⊕ Unit)) : LE × St := match x with
 | .inl x => (.ret, ⟨fr [(4, I L x)], hl []⟩)
 | .inr x => (.exit 0, ⟨fr [], hl []⟩)
theorem Jch {k0} {k1} {k2} {s} {r} (h : Kn (Ko k0 k1 k2) bigN s = some r) : LK env [] 0 [0, 1, 7, 8] Jvt (some (Ke k0 k1 k2 s)) = some (Ki k0 k1 k2 r) := Kh (st := Ke k0 k1 k2) (out := Ki k0 k1 k2) (by
 clear h s r
 rintro s0 x h
 simp only [Ko] at h
 rcases ifC h with ⟨c1, h⟩ | ⟨c1, h⟩
 ·obtain ⟨v4, h3, h⟩ := oS h
  have f2 := Kf (e := Xn) h3
  have f5 := Jl0 v4 k1
  rcases ifC h with ⟨c6, h⟩ | ⟨c6, h⟩
  ·cases h
   simp only [Ke, Ki]
   rw [Jm]
   simp [*]
  ·cases h
   simp only [Ke]
   rw [Jm]
   simp [*]
 ·cases h
  simp only [Ke, Ki]
  rw [Jm]
  simp [*]) bigN s r h
def Ql (p0 : (FS Kk)) (p1_0 : Int) : Option Int := (J6 (Kn (Ko p0 p1_0 (flen p0)) bigN 0) fun v8 => (match v8 with
 | .inl v8x => some v8x
 | .inr v8x => some (-1)))
theorem Jct {p0} {p1_0} {r} (h : Ql p0 p1_0 = some r) : FC env 107 [encF Xn p0, .fn 103 [.rptr [I L p1_0]]] none = some (I L r, fun _ => none) := by
 unfold Ql at h
 obtain ⟨v8, h7, h⟩ := oS h
 have f9 := Jch h7
 cases v8 with
 | inl v8x =>
  try simp only at h
  simp only [Ke, Ki, J5] at f9
  try simp only [Jg, Jh, Jk, Jr, Ju, Jt, Js, Jv] at f9
  cases h
  refine J0 (lf := Jzo) rfl rfl rfl ?_
  simp only [Jzo, lc107]
  simp [*]
 | inr v8x =>
  try simp only at h
  simp only [Ke, Ki, J5] at f9
  try simp only [Jg, Jh, Jk, Jr, Ju, Jt, Js, Jv] at f9
  cases h
  refine J0 (lf := Jzo) rfl rfl rfl ?_
  simp only [Jzo, lc107]
  simp [*]
attribute [simp] c102_0 c102_1
def Qa (p0 : (FS Kk)) (p1_0 : Int) : Option Bool := (J6 (Ql p0 p1_0) fun v3 => some (ige v3 0))
theorem Jci {p0} {p1_0} {r} (h : Qa p0 p1_0 = some r) : FC env 102 [encF Xn p0, .fn 103 [.rptr [I L p1_0]]] none = some (.bool r, fun _ => none) := by
 unfold Qa at h
 obtain ⟨v3, h2, h⟩ := oS h
 have f1 := Jct h2
 cases h
 refine J0 (lf := lf102) rfl rfl rfl ?_
 simp only [lf102, lc102]
 simp [*]
attribute [simp] c100_0 c100_1 c100_2 c100_3
def Jet (p0 : (FS Kk)) (p1 : Int) : Option Bool := (J6 (Jeo p0) fun v3 => (if (bnot v3) = true then some false
 else (J6 (Qa p0 p1) fun v7 => some v7)))
theorem Jmz {p0} {p1} {r} (h : Jet p0 p1 = some r) : FC env 100 [encF Xn p0, I L p1] none = some (.bool r, fun _ => none) := by
 unfold Jet at h
 obtain ⟨v3, h2, h⟩ := oS h
 have f1 := Jll h2
 rcases ifC h with ⟨c4, h⟩ | ⟨c4, h⟩
 ·cases h
  refine J0 (lf := Jz5) rfl rfl rfl ?_
  simp only [Jz5, lc100]
  rcases tof v3 with a5 | a5
  ·simp [a5] at c4
  ·simp [*]
 ·obtain ⟨v8, h7, h⟩ := oS h
  have f6 := Jci h7
  cases h
  refine J0 (lf := Jz5) rfl rfl rfl ?_
  simp only [Jz5, lc100]
  rcases tof v3 with a9 | a9
  ·simp [*]
  ·simp [a9] at c4
attribute [simp] c96_0 c96_1
def z2 (p0 : Jl) (p1 : Ja) : Option Bool := (J6 (Jdm p0) fun v3 => (J6 (gOpt v3 (Jgi p0 p1.Y)) fun v6 => (J6 (gOpt v3 (Jet (v6.getD (FS.nil : (FS Kk))) p1.X)) fun v9 => some (band v3 (v9.getD false)))))
theorem Je6 {p0} {p1} {r} (h : z2 p0 p1 = some r) : FC env 96 [.agg [encF Jq p0.Rows], .agg [I L p1.X, I L p1.Y]] none = some (.bool r, fun _ => none) := by
 unfold z2 at h
 obtain ⟨v3, h2, h⟩ := oS h
 have f1 := Jjz h2
 obtain ⟨v6, h5, h⟩ := oS h
 have f4 := fun (q0 : v3 = true) => Jpw (Qp (FS.nil : (FS Kk)) h5 q0)
 obtain ⟨v9, h8, h⟩ := oS h
 have f7 := fun (q0 : v3 = true) => Jmz (Qp false h8 q0)
 cases h
 refine J0 (lf := lf96) rfl rfl rfl ?_
 simp only [lf96, lc96]
 rcases tof v3 with a10 | a10
 ·simp [*]
 ·simp [*]
attribute [simp] c97_0 c97_1 c97_2 c97_3 c97_4 c97_5 c97_6 c97_7 c97_8 c97_9 J8j J11 J08 J1a J8o c97_17
theorem c97_L0_u : EC Γ ps 0 Jx2 σ = EC Γ ps 0 (.seq (.reg false c97_8) (.seq (.cond (.t 57) .skip (.seq (.trim [3, 5, 7, 8]) (.exit 2))) (.seq (.blk 3 (.seq (.reg false c97_9) (.seq (.reg false J8j) (.seq (.reg false J11) (.cond (.t 71) (.seq (.reg false J08) (.reg false J1a)) .skip))))) (.reg false J8o)))) σ := rfl
theorem c97_L1_u : EC Γ ps 0 J5h σ = EC Γ ps 0 (.seq (.seq (.reg false c97_3) (.cond (.t 22) .skip (.seq (.trim [7]) (.exit 0)))) (.blk 1 (.seq (.reg false c97_4) (.seq (.reg false c97_5) (.seq (.seq (.reg false c97_6) (.cond (.t 30) (.seq (.trim [7]) (.exit 0)) .skip)) (.seq (.reg false c97_7) (.blk 2 (.loop [3, 5, 7, 8, 9, 55, 56] Jx2)))))))) σ := rfl
attribute [simp ↓] c97_L0_u c97_L1_u
def Jau (k0 : Jl) (k1 : Ja) (k2 : Ja) (k3 : (A4 Ja)) (s : ((List (Ja × Ja)) × (FS Ja) × Int)) : Option (LR ((List (Ja × Ja)) × (FS Ja) × Int) ((List (Ja × Ja)) × (FS Ja))) := match s with
 | (s0, s1, s2) => (if (ilt s2 4) = true then (if inB s2 4 = true then (J6 (gOpt (bnot (mhas Kw s0 (A4.get k3 s2))) (z2 k0 (A4.get k3 s2))) fun v23 => (if (band (bnot (mhas Kw s0 (A4.get k3 s2))) (v23.getD false)) = true then (if fits 16 ((flen s1) + 1) = true then some (.nx ((mset Kw s0 (A4.get k3 s2) k2), (Yy s1 (A4.get k3 s2)), (iadd L s2 1))) else none)
 else some (.nx (s0, s1, (iadd L s2 1))))) else none)
 else some (.dn (s0, s1)))
def Jca (k0 : Jl) (k1 : Ja) (k2 : Ja) (k3 : (A4 Ja)) (s : ((List (Ja × Ja)) × (FS Ja) × Int)) : St := match s with
 | (s0, s1, s2) => ⟨fr [(3, .ptr 3 0 0), (5, .ptr 5 0 0), (7, .map 7 0), (8, .arr 8 0 0 s1.l.length), (9, .ptr 9 0 0), (55, .agg [I L k3.a0.X, I L k3.a0.Y, I L k3.a1.X, I L k3.a1.Y, I L k3.a2.X, I L k3.a2.Y, I L k3.a3.X, I L k3.a3.Y]), (56, I L s2)], hl [(3, .box 0 [encF Jq k0.Rows]), (5, .box 0 [I L k1.X, I L k1.Y]), (7, .map 0 (encM jk j5 s0) false), (8, .arr 0 2 27 (Jn Jf s1.l) false), (9, .box 0 [I L k2.X, I L k2.Y])]⟩
def Jdq (k0 : Jl) (k1 : Ja) (k2 : Ja) (k3 : (A4 Ja)) (x : ((List (Ja × Ja)) × (FS Ja))) : LE × St := (.exit 2, ⟨fr [(3, .ptr 3 0 0), (5, .ptr 5 0 0), (7, .map 7 0), (8, .arr 8 0 0 x.2.l.length)], hl [(3, .box 0 [encF Jq k0.Rows]), (5, .box 0 [I L k1.X, I L k1.Y]), (7, .map 0 (encM jk j5 x.1) false), (8, .arr 0 2 27 (Jn Jf x.2.l) false)]⟩)
theorem Jmj {k0} {k1} {k2} {k3} {s} {r} (h : Kn (Jau k0 k1 k2 k3) bigN s = some r) : LK env [] 0 [3, 5, 7, 8, 9, 55, 56] Jx2 (some (Jca k0 k1 k2 k3 s)) = some (Jdq k0 k1 k2 k3 r) := Kh (st := Jca k0 k1 k2 k3) (out := Jdq k0 k1 k2 k3) (by
 clear h s r
 rintro ⟨s0, s1, s2⟩ x h
 simp only [Jau] at h
 rcases ifC h with ⟨c19, h⟩ | ⟨c19, h⟩
 ·obtain ⟨h21, h⟩ := ifS h
  have f20 := @idx_in 4 s2 h21 2 true [I L k3.a0.X, I L k3.a0.Y, I L k3.a1.X, I L k3.a1.Y, I L k3.a2.X, I L k3.a2.Y, I L k3.a3.X, I L k3.a3.Y]
  have f20b := @pack_A4 _ _ Jf _ k3 _ h21 [] [] (by decide) true
  simp only [A4.toL, Jn, List.flatMap_cons, List.flatMap_nil, List.append_assoc, List.nil_append, List.cons_append, List.append_nil, List.length_cons, List.length_nil, Nat.zero_add, Jf] at f20b
  have f22 := Jr7 (ek := jk) (ev := j5) s0 (A4.get k3 s2) (⟨0, 0⟩ : Ja)
  simp only [jk, j5] at f22
  obtain ⟨v25, h24, h⟩ := oS h
  have f23 := fun (q0 : (bnot (mhas Kw s0 (A4.get k3 s2))) = true) => Je6 (Qp false h24 q0)
  rcases ifC h with ⟨c26, h⟩ | ⟨c26, h⟩
  ·have f27 := fun (H : Heap) hg => J9k (ek := jk) (ev := j5) (h := H) (g := 7) (ver := 0) (es := s0) hg (A4.get k3 s2) k2
   simp only [jk, j5] at f27
   obtain ⟨h29, h⟩ := ifS h
   have f28 := fun g0 H y => @Y3 _ _ Jf _ s1 (A4.get k3 s2) 16 h29 (by decide) g0 H 8 0 27 y
   simp only [Jf] at f28
   cases h
   simp only [Jca]
   rw [Jm]
   rcases tof (mhas Kw s0 (A4.get k3 s2)) with a30 | a30 <;> rcases tof (v25.getD false) with a31 | a31 <;> (try (simp [c19, a30, a31] at c26; done)) <;> simp [*, Jxo]
  ·cases h
   simp only [Jca]
   rw [Jm]
   rcases tof (mhas Kw s0 (A4.get k3 s2)) with a32 | a32 <;> rcases tof (v25.getD false) with a33 | a33 <;> (try (simp [c19, a32, a33] at c26; done)) <;> simp [*, Jxo]
 ·cases h
  simp only [Jca, Jdq]
  rw [Jm]
  simp [*]) bigN s r h
def Jcm (k0 : Jl) (k1 : Ja) (s : ((List (Ja × Ja)) × (FS Ja))) : Option (LR ((List (Ja × Ja)) × (FS Ja)) (List (Ja × Ja))) := match s with
 | (s0, s1) => (if (igt (flen s1) 0) = true then (J6 (fget s1 0) fun v8 => (J6 (fsl s1 1 (flen s1)) fun v15 => (if (band (ieq v8.X k1.X) (band (ieq v8.Y k1.Y) true)) = true then some (.dn s0)
 else (J6 (Kn (Jau k0 k1 v8 (⟨(⟨(iadd L v8.X 1), v8.Y⟩ : Ja), (⟨(isub L v8.X 1), v8.Y⟩ : Ja), (⟨v8.X, (iadd L v8.Y 1)⟩ : Ja), (⟨v8.X, (isub L v8.Y 1)⟩ : Ja)⟩ : (A4 Ja))) bigN (s0, v15, 0)) fun v29 => some (.nx (v29.1, v29.2))))))
 else some (.dn s0))
def Jb4 (k0 : Jl) (k1 : Ja) (s : ((List (Ja × Ja)) × (FS Ja))) : St := match s with
 | (s0, s1) => ⟨fr [(3, .ptr 3 0 0), (5, .ptr 5 0 0), (7, .map 7 0), (8, .arr 8 0 0 s1.l.length)], hl [(3, .box 0 [encF Jq k0.Rows]), (5, .box 0 [I L k1.X, I L k1.Y]), (7, .map 0 (encM jk j5 s0) false), (8, .arr 0 2 27 (Jn Jf s1.l) false)]⟩
def Jcq (k0 : Jl) (k1 : Ja) (x : (List (Ja × Ja))) : LE × St := (.exit 0, ⟨fr [(7, .map 7 0)], hl [(7, .map 0 (encM jk j5 x) false)]⟩)
theorem Jmn {k0} {k1} {s} {r} (h : Kn (Jcm k0 k1) bigN s = some r) : LK env [] 0 [3, 5, 7, 8] J5h (some (Jb4 k0 k1 s)) = some (Jcq k0 k1 r) := Kh (st := Jb4 k0 k1) (out := Jcq k0 k1) (by
 clear h s r
 rintro ⟨s0, s1⟩ x h
 simp only [Jcm] at h
 rcases ifC h with ⟨c4, h⟩ | ⟨c4, h⟩
 ·obtain ⟨v8, h7, h⟩ := oS h
  have f5 := Xm (w := 2) h7
  have f6 := h7
  have f9 := (Zb (e := Jf) f6 true 2 (by decide) (by decide))
  simp only [Jf] at f9
  obtain ⟨v15, h14, h⟩ := oS h
  have f12 := Jfi (e := Jf) h14
  try simp only [Aa, Ab, Ac, Ad] at f12
  have f13 := Jhj h14 2
  try simp only [Aa, Ab, Ac, Ad] at f13
  have f10 := Jhx (w := 2) h14
  try simp only [Aa, Ab, Ac, Ad] at f10
  have f11 := h14
  rcases ifC h with ⟨c16, h⟩ | ⟨c16, h⟩
  ·cases h
   simp only [Jb4, Jcq]
   rw [Jm]
   rcases tof (ieq v8.X k1.X) with a17 | a17 <;> rcases tof (ieq v8.Y k1.Y) with a18 | a18 <;> (try (simp [c4, a17, a18] at c16; done)) <;> simp [*]
  ·obtain ⟨v35, h34, h⟩ := oS h
   have f36 := Jmj h34
   simp only [Jca, Jdq, J5] at f36
   try simp only [Jg, Jh, Jk, Jr, Ju, Jt, Js, Jv] at f36
   cases h
   simp only [Jb4]
   rw [Jm]
   rcases tof (ieq v8.X k1.X) with a38 | a38 <;> rcases tof (ieq v8.Y k1.Y) with a39 | a39 <;> (try (simp [c4, a38, a39] at c16; done)) <;> (try simp only [c4, a38, a39] at f36) <;> simp [*]
 ·cases h
  simp only [Jb4, Jcq]
  rw [Jm]
  simp [*]) bigN s r h
def Jfw (p0 : Jl) (p1 : Ja) (p2 : Ja) : Option (List (Ja × Ja)) := (J6 (Kn (Jcm p0 p2) bigN ((mset Kw ([] : (List (Ja × Ja))) p1 p1), (flit ([p1] : List Ja)))) fun v32 => some v32)
theorem Jox {p0} {p1} {p2} {r} (h : Jfw p0 p1 p2 = some r) : FC env 97 [.agg [encF Jq p0.Rows], .agg [I L p1.X, I L p1.Y], .agg [I L p2.X, I L p2.Y]] none = some (Jmv jk j5 r, fun _ => none) := by
 unfold Jfw at h
 have f1 := mkM_enc (ek := jk) (ev := j5)
 have f2 := fun (H : Heap) hg => J9k (ek := jk) (ev := j5) (h := H) (g := 14) (ver := 0) (es := ([] : (List (Ja × Ja)))) hg p1 p1
 simp only [jk, j5] at f2
 have f3 : ∀ (H : Heap) (g0 : Nat), bslV H g0 1 2 27 (some [I L p1.X, I L p1.Y]) = some (.arr g0 (Kj H g0) 0 (flit ([p1] : List Ja)).l.length, upd H g0 (some (.arr (Kj H g0) 2 27 (Jn Jf (flit ([p1] : List Ja)).l) false))) := fun H g0 => rfl
 obtain ⟨v41, h40, h⟩ := oS h
 have f42 := Jmn h40
 simp only [Jb4, Jcq, J5] at f42
 try simp only [Jg, Jh, Jk, Jr, Ju, Jt, Js, Jv] at f42
 have f44 := fun (H : Heap) (g w : Nat) hg => J78 (ek := jk) (ev := j5) (es := v41) (h := H) (g := g) (ver := w) hg
 cases h
 refine J0 (lf := lf97) rfl rfl rfl ?_
 simp only [lf97, lc97]
 simp [*, -Jpr]
attribute [simp] c98_0 c98_1 c98_2 c98_3
theorem c98_L0_u : EC Γ ps 0 J4t σ = EC Γ ps 0 (.seq (.seq (.reg false c98_1) (.cond (.t 9) .skip (.seq (.trim []) (.exit 0)))) (.seq (.blk 1 (.reg true c98_2)) (.reg false c98_3))) σ := rfl
attribute [simp ↓] c98_L0_u
def Qj  (s : ((FS Ja) × Int × Int)) : Option (LR ((FS Ja) × Int × Int) (FS Ja)) := match s with
 | (s0, s1, s2) => (if (ilt s1 s2) = true then (J6 (fget s0 s2) fun v5 => (J6 (fget s0 s1) fun v10 => (J6 (fget (fset s0 s1 v5) s2) fun v19 => some (.nx ((fset (fset s0 s1 v5) s2 v10), (iadd L s1 1), (isub L s2 1))))))
 else some (.dn s0))
def Qu  (s : ((FS Ja) × Int × Int)) : St := match s with
 | (s0, s1, s2) => ⟨fr [(0, .arr 0 0 0 s0.l.length), (2, I L s1), (3, I L s2)], hl [(0, .arr 0 2 27 (Jn Jf s0.l) false)]⟩
def Xx  (x : (FS Ja)) : LE × St := (.exit 0, ⟨fr [], hl [(0, .arr 0 2 27 (Jn Jf x.l) false)]⟩)
theorem Jel  {s} {r} (h : Kn (Qj ) bigN s = some r) : LK env [0] 0 [0, 2, 3] J4t (some (Qu  s)) = some (Xx  r) := Kh (st := Qu ) (out := Xx ) (by
 clear h s r
 rintro ⟨s0, s1, s2⟩ x h
 simp only [Qj] at h
 rcases ifC h with ⟨c1, h⟩ | ⟨c1, h⟩
 ·obtain ⟨v5, h4, h⟩ := oS h
  have f2 := Xm (w := 2) h4
  have f3 := h4
  have f6 := (Zb (e := Jf) f3 true 2 (by decide) (by decide))
  simp only [Jf] at f6
  obtain ⟨v10, h9, h⟩ := oS h
  have f7 := Xm (w := 2) h9
  have f8 := h9
  have f11 := (Zb (e := Jf) f8 true 2 (by decide) (by decide))
  simp only [Jf] at f11
  have f14 := @Jf9 _ _ Jf _ s0 s1 v10 v5 f8 [I L v5.X, I L v5.Y] (by simp) (by simp [Jf])
  have f15 := Jmp (w := 2) f8 2 (by decide)
  try simp at f15
  obtain ⟨v19, h18, h⟩ := oS h
  have f16 := Xm (w := 2) h18
  try simp only [J5] at f16
  have f17 := h18
  have f20 := @Jf9 _ _ Jf _ (fset s0 s1 v5) s2 v19 v10 f17 [I L v10.X, I L v10.Y] (by simp) (by simp [Jf])
  have f21 := Jmp (w := 2) f17 2 (by decide)
  try simp at f21
  cases h
  simp only [Qu]
  rw [Jm]
  simp [*]
 ·cases h
  simp only [Qu, Xx]
  rw [Jm]
  simp [*]) bigN s r h
def X4 (p0 : (FS Ja)) : Option (FS Ja) := (J6 (Kn (Qj) bigN (p0, 0, (isub L (flen p0) 1))) fun v23 => some v23)
theorem Je7 {p0} {r} (h : X4 p0 = some r) : FC env 98 [.arr 0 0 0 p0.l.length] (some (hl [(0, .arr 0 2 27 (Jn Jf p0.l) false)], 0)) = some (.tup [], hl [(0, .arr 0 2 27 (Jn Jf r.l) false)]) := by
 unfold X4 at h
 obtain ⟨v23, h22, h⟩ := oS h
 have f24 := Jel h22
 simp only [Qu, Xx, J5] at f24
 try simp only [Jg, Jh, Jk, Jr, Ju, Jt, Js, Jv] at f24
 cases h
 refine Jav (lf := lf98) rfl rfl rfl ?_
 simp only [lf98, lc98]
 simp [*]
attribute [simp] c90_0 c90_1 c90_2 c90_3 c90_4 c90_5 c90_6 c90_7 c90_8 c90_9 J5s J69 J13 J03 c90_15 c90_16
theorem c90_L0_u : EC Γ ps 0 J6p σ = EC Γ ps 0 (.seq (.seq (.reg false c90_9) (.cond (.t 40) .skip (.seq (.trim [11]) (.exit 0)))) (.seq (.blk 1 (.seq (.reg false J5s) (.reg false J69))) (.seq (.reg false J13) (.reg false J03)))) σ := rfl
attribute [simp ↓] c90_L0_u
def Jdj (k0 : Ja) (k1 : (List (Ja × Ja))) (s : ((FS Ja) × Ja)) : Option (LR ((FS Ja) × Ja) (FS Ja)) := match s with
 | (s0, s1) => (if (bnot (band (ieq s1.X k0.X) (band (ieq s1.Y k0.Y) true))) = true then (if fits 16 ((flen s0) + 1) = true then some (.nx ((Yy s0 (mget Kw k1 s1 (⟨0, 0⟩ : Ja))), (mget Kw k1 s1 (⟨0, 0⟩ : Ja)))) else none)
 else some (.dn s0))
def Jdz (k0 : Ja) (k1 : (List (Ja × Ja))) (s : ((FS Ja) × Ja)) : St := match s with
 | (s0, s1) => ⟨fr [(4, .ptr 4 0 0), (8, Jmv jk j5 k1), (11, .arr 11 0 0 s0.l.length), (12, .ptr 12 0 0)], hl [(4, .box 0 [I L k0.X, I L k0.Y]), (11, .arr 0 2 27 (Jn Jf s0.l) false), (12, .box 0 [I L s1.X, I L s1.Y])]⟩
def Jei (k0 : Ja) (k1 : (List (Ja × Ja))) (x : (FS Ja)) : LE × St := (.exit 0, ⟨fr [(11, .arr 11 0 0 x.l.length)], hl [(11, .arr 0 2 27 (Jn Jf x.l) false)]⟩)
theorem Jn7 {k0} {k1} {s} {r} (h : Kn (Jdj k0 k1) bigN s = some r) : LK env [] 0 [4, 8, 11, 12] J6p (some (Jdz k0 k1 s)) = some (Jei k0 k1 r) := Kh (st := Jdz k0 k1) (out := Jei k0 k1) (by
 clear h s r
 rintro ⟨s0, s1⟩ x h
 simp only [Jdj] at h
 rcases ifC h with ⟨c19, h⟩ | ⟨c19, h⟩
 ·have f20 := look_enc (ek := jk) (ev := j5) k1 s1 (⟨0, 0⟩ : Ja)
  simp only [jk, j5] at f20
  obtain ⟨h22, h⟩ := ifS h
  have f21 := fun g0 H y => @Y3 _ _ Jf _ s0 (mget Kw k1 s1 (⟨0, 0⟩ : Ja)) 16 h22 (by decide) g0 H 11 0 27 y
  simp only [Jf] at f21
  cases h
  simp only [Jdz]
  rw [Jm]
  rcases tof (ieq s1.X k0.X) with a23 | a23 <;> rcases tof (ieq s1.Y k0.Y) with a24 | a24 <;> (try (simp [a23, a24] at c19; done)) <;> simp [*, es_MP]
 ·cases h
  simp only [Jdz, Jei]
  rw [Jm]
  rcases tof (ieq s1.X k0.X) with a25 | a25 <;> rcases tof (ieq s1.Y k0.Y) with a26 | a26 <;> (try (simp [a25, a26] at c19; done)) <;> simp [*]) bigN s r h
def Jd2 (p0 : Jl) (p1 : Ja) (p2 : Ja) : Option ((FS Ja) × Bool) := (J6 (z2 p0 p1) fun v3 => (J6 (gOpt (bnot (bnot v3)) (z2 p0 p2)) fun v6 => (if (bor (bnot v3) (bnot (v6.getD false))) = true then some ((FS.nil : (FS Ja)), false)
 else (J6 (Jfw p0 p1 p2) fun v10 => (if (bnot (mhas Kw v10 p2)) = true then some ((FS.nil : (FS Ja)), false)
 else (J6 (Kn (Jdj p1 v10) bigN ((flit ([p2] : List Ja)), p2)) fun v19 => (J6 (X4 v19) fun v22 => (if ieq (flen v22) (flen v19) = true then some ((flst v22), true) else none))))))))
theorem Jl6 {p0} {p1} {p2} {r} (h : Jd2 p0 p1 p2 = some r) : FC env 90 [.agg [encF Jq p0.Rows], .agg [I L p1.X, I L p1.Y], .agg [I L p2.X, I L p2.Y]] none = some (.tup [encF Jf r.1, .bool r.2], fun _ => none) := by
 unfold Jd2 at h
 obtain ⟨v3, h2, h⟩ := oS h
 have f1 := Je6 h2
 obtain ⟨v6, h5, h⟩ := oS h
 have f4 := fun (q0 : (bnot v3) = false) => Je6 (Qp false h5 (Jeb q0))
 rcases ifC h with ⟨c7, h⟩ | ⟨c7, h⟩
 ·cases h
  refine J0 (lf := lf90) rfl rfl rfl ?_
  simp only [lf90, lc90]
  rcases tof v3 with a8 | a8 <;> rcases tof (v6.getD false) with a9 | a9 <;> (try (simp [a8, a9] at c7; done)) <;> simp [*, Q4, tupS, Qm, K5, Qo, K4, Qq]
 ·obtain ⟨v12, h11, h⟩ := oS h
  have f10 := Jox h11
  have f13 := Jr7 (ek := jk) (ev := j5) v12 p2 (⟨0, 0⟩ : Ja)
  simp only [jk, j5] at f13
  rcases ifC h with ⟨c14, h⟩ | ⟨c14, h⟩
  ·cases h
   refine J0 (lf := lf90) rfl rfl rfl ?_
   simp only [lf90, lc90]
   rcases tof v3 with a15 | a15 <;> rcases tof (v6.getD false) with a16 | a16 <;> rcases tof (mhas Kw v12 p2) with a17 | a17 <;> (try (simp [a15, a16, a17] at c14 c7; done)) <;> simp [*, es_MP, Q4, tupS, Qm, K5, Qo, K4, Qq]
  ·have f18 : ∀ (H : Heap) (g0 : Nat), bslV H g0 1 2 27 (some [I L p2.X, I L p2.Y]) = some (.arr g0 (Kj H g0) 0 (flit ([p2] : List Ja)).l.length, upd H g0 (some (.arr (Kj H g0) 2 27 (Jn Jf (flit ([p2] : List Ja)).l) false))) := fun H g0 => rfl
   obtain ⟨v28, h27, h⟩ := oS h
   have f29 := Jn7 h27
   simp only [Jdz, Jei, J5] at f29
   try simp only [Jg, Jh, Jk, Jr, Ju, Jt, Js, Jv] at f29
   obtain ⟨v32, h31, h⟩ := oS h
   have f33 := Je7 h31
   try simp only [J5, Ka, Jg, Jh, Jk, Jr, Ju, Jt, Js, Jv] at f33
   obtain ⟨h34, h⟩ := ifS h
   have h35 : v28.l.length = v32.l.length := len_of h34
   try simp only [h35] at f1 f4 f10 f13 f18 f29 f33
   try simp only [Jg, Jh, Jk, Jr, Ju, Jt, Js, Jv] at f33
   have f36 : ∀ H : Heap, H 11 = some (.arr 0 2 27 (Jn Jf v28.l) false) → Jcc (FC env) 98 H [.arr 11 0 0 v28.l.length] = some (.tup [], upd H 11 (some (.arr 0 2 27 (Jn Jf v32.l) false))) := by
     intro H q0
     simp [*, q0]
   try simp only [h35] at f36
   cases h
   refine J0 (lf := lf90) rfl rfl rfl ?_
   simp only [lf90, lc90]
   rcases tof v3 with a37 | a37 <;> rcases tof (v6.getD false) with a38 | a38 <;> rcases tof (mhas Kw v12 p2) with a39 | a39 <;> (try (simp [a37, a38, a39] at c14 c7; done)) <;> (try simp only [a37, a38, a39] at f29 f33) <;> simp [*, -Q6, es_MP, -Jpr, Jfd (e := Jf) (el := 27) (fz := false), Q4, tupS, Qm, K5, Qo, K4, Qq]
attribute [simp] c99_0 c99_1
def Jdy (p0 : Ja) : Bool := (band (band (band (ige p0.X (-4096)) (ilt p0.X 4096)) (ige p0.Y (-4096))) (ilt p0.Y 4096))
def t_comb_ok (p0 : Ja) : Option Bool := some (Jdy p0)
theorem Jos (p0 : Ja) : FC env 99 [.agg [I L p0.X, I L p0.Y]] none = some (.bool (Jdy p0), fun _ => none) := by
 unfold Jdy
 refine J0 (lf := lf99) rfl rfl rfl ?_
 simp only [lf99, lc99]
 rcases tof (ige p0.X (-4096)) with a1 | a1 <;> rcases tof (ilt p0.X 4096) with a2 | a2 <;> rcases tof (ige p0.Y (-4096)) with a3 | a3 <;> simp [*]
attribute [simp] c91_0 c91_1 c91_2 c91_3 c91_4 c91_5 c91_6 c91_7 c91_8 c91_9 J8k J1y J1w c91_14
theorem c91_L0_u : EC Γ ps 0 J9p σ = EC Γ ps 0 (.seq (.seq (.reg false c91_4) (.cond (.t 18) .skip (.seq (.trim [5]) (.exit 0)))) (.blk 1 (.seq (.blk 2 (.seq (.reg false c91_5) (.cond (.t 23) (.reg false c91_6) (.seq (.reg false c91_7) (.cond (.t 33) (.reg false c91_8) (.seq (.reg false c91_9) (.cond (.t 43) (.reg false J8k) (.reg false J1y)))))))) (.reg false J1w)))) σ := rfl
attribute [simp ↓] c91_L0_u
def Jck (k0 : Ja) (s : (Ja × (FS Ja))) : Option (LR (Ja × (FS Ja)) (FS Ja)) := match s with
 | (s0, s1) => (if (bnot (band (ieq s0.X k0.X) (band (ieq s0.Y k0.Y) true))) = true then (if (ilt s0.X k0.X) = true then (if fits 16 ((flen s1) + 1) = true then some (.nx ((⟨(iadd L s0.X 1), s0.Y⟩ : Ja), (Yy s1 (⟨(iadd L s0.X 1), s0.Y⟩ : Ja)))) else none)
 else (if (igt s0.X k0.X) = true then (if fits 16 ((flen s1) + 1) = true then some (.nx ((⟨(isub L s0.X 1), s0.Y⟩ : Ja), (Yy s1 (⟨(isub L s0.X 1), s0.Y⟩ : Ja)))) else none)
 else (if (ilt s0.Y k0.Y) = true then (if fits 16 ((flen s1) + 1) = true then some (.nx ((⟨s0.X, (iadd L s0.Y 1)⟩ : Ja), (Yy s1 (⟨s0.X, (iadd L s0.Y 1)⟩ : Ja)))) else none)
 else (if fits 16 ((flen s1) + 1) = true then some (.nx ((⟨s0.X, (isub L s0.Y 1)⟩ : Ja), (Yy s1 (⟨s0.X, (isub L s0.Y 1)⟩ : Ja)))) else none))))
 else some (.dn s1))
def Zv (k0 : Ja) (s : (Ja × (FS Ja))) : St := match s with
 | (s0, s1) => ⟨fr [(2, .ptr 2 0 0), (3, .ptr 3 0 0), (5, .arr 5 0 0 s1.l.length)], hl [(2, .box 0 [I L s0.X, I L s0.Y]), (3, .box 0 [I L k0.X, I L k0.Y]), (5, .arr 0 2 27 (Jn Jf s1.l) false)]⟩
def Jc7 (k0 : Ja) (x : (FS Ja)) : LE × St := (.exit 0, ⟨fr [(5, .arr 5 0 0 x.l.length)], hl [(5, .arr 0 2 27 (Jn Jf x.l) false)]⟩)
theorem Jky {k0} {s} {r} (h : Kn (Jck k0) bigN s = some r) : LK env [] 0 [2, 3, 5] J9p (some (Zv k0 s)) = some (Jc7 k0 r) := Kh (st := Zv k0) (out := Jc7 k0) (by
 clear h s r
 rintro ⟨s0, s1⟩ x h
 simp only [Jck] at h
 rcases ifC h with ⟨c7, h⟩ | ⟨c7, h⟩
 ·rcases ifC h with ⟨c8, h⟩ | ⟨c8, h⟩
  ·obtain ⟨h10, h⟩ := ifS h
   have f9 := fun g0 H y => @Y3 _ _ Jf _ s1 (⟨(iadd L s0.X 1), s0.Y⟩ : Ja) 16 h10 (by decide) g0 H 5 0 27 y
   simp only [Jf] at f9
   cases h
   simp only [Zv]
   rw [Jm]
   rcases tof (ieq s0.X k0.X) with a11 | a11 <;> rcases tof (ieq s0.Y k0.Y) with a12 | a12 <;> (try (simp [c8, a11, a12] at c7; done)) <;> simp [*]
  ·rcases ifC h with ⟨c13, h⟩ | ⟨c13, h⟩
   ·obtain ⟨h15, h⟩ := ifS h
    have f14 := fun g0 H y => @Y3 _ _ Jf _ s1 (⟨(isub L s0.X 1), s0.Y⟩ : Ja) 16 h15 (by decide) g0 H 5 0 27 y
    simp only [Jf] at f14
    cases h
    simp only [Zv]
    rw [Jm]
    rcases tof (ieq s0.X k0.X) with a16 | a16 <;> rcases tof (ieq s0.Y k0.Y) with a17 | a17 <;> (try (simp [c8, c13, a16, a17] at c7; done)) <;> simp [*]
   ·rcases ifC h with ⟨c18, h⟩ | ⟨c18, h⟩
    ·obtain ⟨h20, h⟩ := ifS h
     have f19 := fun g0 H y => @Y3 _ _ Jf _ s1 (⟨s0.X, (iadd L s0.Y 1)⟩ : Ja) 16 h20 (by decide) g0 H 5 0 27 y
     simp only [Jf] at f19
     cases h
     simp only [Zv]
     rw [Jm]
     rcases tof (ieq s0.X k0.X) with a21 | a21 <;> rcases tof (ieq s0.Y k0.Y) with a22 | a22 <;> (try (simp [c8, c13, c18, a21, a22] at c7; done)) <;> simp [*]
    ·obtain ⟨h24, h⟩ := ifS h
     have f23 := fun g0 H y => @Y3 _ _ Jf _ s1 (⟨s0.X, (isub L s0.Y 1)⟩ : Ja) 16 h24 (by decide) g0 H 5 0 27 y
     simp only [Jf] at f23
     cases h
     simp only [Zv]
     rw [Jm]
     rcases tof (ieq s0.X k0.X) with a25 | a25 <;> rcases tof (ieq s0.Y k0.Y) with a26 | a26 <;> (try (simp [c8, c13, c18, a25, a26] at c7; done)) <;> simp [*]
 ·cases h
  simp only [Zv, Jc7]
  rw [Jm]
  rcases tof (ieq s0.X k0.X) with a27 | a27 <;> rcases tof (ieq s0.Y k0.Y) with a28 | a28 <;> (try (simp [a27, a28] at c7; done)) <;> simp [*]) bigN s r h
def Jeu (p0 : Ja) (p1 : Ja) : Option (FS Ja) := (if (bor (bnot (Jdy p0)) (bnot (Jdy p1))) = true then some (FS.nil : (FS Ja))
 else (J6 (Kn (Jck p1) bigN (p0, (flit ([p0] : List Ja)))) fun v18 => some (flst v18)))
theorem Jiz {p0} {p1} {r} (h : Jeu p0 p1 = some r) : FC env 91 [.agg [I L p0.X, I L p0.Y], .agg [I L p1.X, I L p1.Y]] none = some (encF Jf r, fun _ => none) := by
 unfold Jeu at h
 have f1 := Jos p0
 have f2 := Jos p1
 rcases ifC h with ⟨c3, h⟩ | ⟨c3, h⟩
 ·cases h
  refine J0 (lf := lf91) rfl rfl rfl ?_
  simp only [lf91, lc91]
  rcases tof (Jdy p0) with a4 | a4 <;> rcases tof (Jdy p1) with a5 | a5 <;> (try (simp [a4, a5] at c3; done)) <;> simp [*]
 ·have f6 : ∀ (H : Heap) (g0 : Nat), bslV H g0 1 2 27 (some [I L p0.X, I L p0.Y]) = some (.arr g0 (Kj H g0) 0 (flit ([p0] : List Ja)).l.length, upd H g0 (some (.arr (Kj H g0) 2 27 (Jn Jf (flit ([p0] : List Ja)).l) false))) := fun H g0 => rfl
  obtain ⟨v30, h29, h⟩ := oS h
  have f31 := Jky h29
  simp only [Zv, Jc7, J5] at f31
  try simp only [Jg, Jh, Jk, Jr, Ju, Jt, Js, Jv] at f31
  cases h
  refine J0 (lf := lf91) rfl rfl rfl ?_
  simp only [lf91, lc91]
  rcases tof (Jdy p0) with a33 | a33 <;> rcases tof (Jdy p1) with a34 | a34 <;> (try (simp [a33, a34] at c3; done)) <;> (try simp only [a33, a34] at f31) <;> simp [*, -Jpr, Kq (e := Jf) (el := 27) (fz := false)]
attribute [simp] c69_0 c69_1 c69_2 c69_3 c69_4 c69_5 c69_6 c69_7 c69_8 c69_9 c69_10 c69_11 c69_12
def Yk (p0 : Jo) (p1 : Ja) : Option Jo := (if (band (ieq p0.nozzle.X p1.X) (band (ieq p0.nozzle.Y p1.Y) true)) = true then some (⟨(⟨p0.list.ops⟩ : Km), p0.r, p0.s, p0.nozzle⟩ : Jo)
 else (J6 (jw (⟨(⟨p0.list.ops⟩ : Km), p0.r, p0.s, p0.nozzle⟩ : Jo) p0.s.Travel) fun v4 => (J6 (Jd2 p0.r p0.nozzle p1) fun v7 => (if (bnot v7.2) = true then (J6 (Jeu p0.nozzle p1) fun v11 => (J6 (fsl v11 1 (flen v11)) fun v14 => (if (band (bnot v7.2) (ine p0.s.Retract 0)) = true then (J6 (J3 (⟨(⟨p0.list.ops⟩ : Km), p0.r, p0.s, p0.nozzle⟩ : Jo) (⟨4, 0, 0, 0, 0, (FS.nil : (FS Ja))⟩ : J1)) fun v17 => (J6 (J3 (⟨(⟨v17.list.ops⟩ : Km), v17.r, v17.s, v17.nozzle⟩ : Jo) (⟨2, 0, 0, 0, v4, v14⟩ : J1)) fun v20 => (J6 (J3 (⟨(⟨v20.list.ops⟩ : Km), v20.r, v20.s, v20.nozzle⟩ : Jo) (⟨5, 0, 0, 0, 0, (FS.nil : (FS Ja))⟩ : J1)) fun v23 => some (⟨(⟨v23.list.ops⟩ : Km), v23.r, v23.s, v23.nozzle⟩ : Jo))))
 else (J6 (J3 (⟨(⟨p0.list.ops⟩ : Km), p0.r, p0.s, p0.nozzle⟩ : Jo) (⟨2, 0, 0, 0, v4, v14⟩ : J1)) fun v26 => some (⟨(⟨v26.list.ops⟩ : Km), v26.r, v26.s, v26.nozzle⟩ : Jo)))))
 else (J6 (fsl v7.1 1 (flen v7.1)) fun v30 => (if (band (bnot v7.2) (ine p0.s.Retract 0)) = true then (J6 (J3 (⟨(⟨p0.list.ops⟩ : Km), p0.r, p0.s, p0.nozzle⟩ : Jo) (⟨4, 0, 0, 0, 0, (FS.nil : (FS Ja))⟩ : J1)) fun v33 => (J6 (J3 (⟨(⟨v33.list.ops⟩ : Km), v33.r, v33.s, v33.nozzle⟩ : Jo) (⟨2, 0, 0, 0, v4, v30⟩ : J1)) fun v36 => (J6 (J3 (⟨(⟨v36.list.ops⟩ : Km), v36.r, v36.s, v36.nozzle⟩ : Jo) (⟨5, 0, 0, 0, 0, (FS.nil : (FS Ja))⟩ : J1)) fun v39 => some (⟨(⟨v39.list.ops⟩ : Km), v39.r, v39.s, v39.nozzle⟩ : Jo))))
 else (J6 (J3 (⟨(⟨p0.list.ops⟩ : Km), p0.r, p0.s, p0.nozzle⟩ : Jo) (⟨2, 0, 0, 0, v4, v30⟩ : J1)) fun v42 => some (⟨(⟨v42.list.ops⟩ : Km), v42.r, v42.s, v42.nozzle⟩ : Jo))))))))
theorem Jgy {p0 : Jo} {p1 : Ja} (e000 : p0.list.ops = FS.nil) {r} (h : Yk p0 p1 = some r) : FC env 69 [.ptr 0 0 0, .agg [I L p1.X, I L p1.Y]] (some (hl [(0, .box 0 [.nils, encF Jq p0.r.Rows, I L p0.s.Pitch, I L p0.s.Height, I L p0.s.Walls, I L p0.s.Top, I L p0.s.Bottom, I L p0.s.Pattern, I L p0.s.Spacing, .bool p0.s.Support, I L p0.s.Reach, I L p0.s.Gap, I L p0.s.Brim, I L p0.s.Skirt, I L p0.s.Drop, I L p0.s.Feed, I L p0.s.Travel, I L p0.s.Retract, I L p0.s.MinTime, I L p0.s.MinFeed, I L p0.s.Nozzle, I L p0.s.Bed, I L p0.nozzle.X, I L p0.nozzle.Y])], 0)) = some (.tup [], (Jat r.list.ops (hl [(0, .box 0 [.nils, encF Jq r.r.Rows, I L r.s.Pitch, I L r.s.Height, I L r.s.Walls, I L r.s.Top, I L r.s.Bottom, I L r.s.Pattern, I L r.s.Spacing, .bool r.s.Support, I L r.s.Reach, I L r.s.Gap, I L r.s.Brim, I L r.s.Skirt, I L r.s.Drop, I L r.s.Feed, I L r.s.Travel, I L r.s.Retract, I L r.s.MinTime, I L r.s.MinFeed, I L r.s.Nozzle, I L r.s.Bed, I L r.nozzle.X, I L r.nozzle.Y])])
  (fun l0 => hl [(0, .box 0 [.arr 1000000 0 0 l0.l.length, encF Jq r.r.Rows, I L r.s.Pitch, I L r.s.Height, I L r.s.Walls, I L r.s.Top, I L r.s.Bottom, I L r.s.Pattern, I L r.s.Spacing, .bool r.s.Support, I L r.s.Reach, I L r.s.Gap, I L r.s.Brim, I L r.s.Skirt, I L r.s.Drop, I L r.s.Feed, I L r.s.Travel, I L r.s.Retract, I L r.s.MinTime, I L r.s.MinFeed, I L r.s.Nozzle, I L r.s.Bed, I L r.nozzle.X, I L r.nozzle.Y]), (1000000, .arr 0 6 52 (Jn Jw l0.l) false)]))) := by
 unfold Yk at h
 simp only [e000, Jx] at h
 rcases ifC h with ⟨c1, h⟩ | ⟨c1, h⟩
 ·cases h
  refine Jav (lf := lf69) rfl rfl rfl ?_
  simp only [lf69, lc69]
  rcases tof (ieq p0.nozzle.X p1.X) with a2 | a2 <;> rcases tof (ieq p0.nozzle.Y p1.Y) with a3 | a3 <;> (try (simp [a2, a3] at c1; done)) <;> simp [*]
 ·obtain ⟨v6, h5, h⟩ := oS h
  have f4 := zq h5
  try simp only [Ka] at f4
  obtain ⟨v9, h8, h⟩ := oS h
  have f7 := Jl6 h8
  rcases ifC h with ⟨c10, h⟩ | ⟨c10, h⟩
  ·obtain ⟨v13, h12, h⟩ := oS h
   have f11 := Jiz h12
   obtain ⟨v16, h15, h⟩ := oS h
   have f14 := Jer (e := Jf) h15
   rcases ifC h with ⟨c17, h⟩ | ⟨c17, h⟩
   ·obtain ⟨v19, h18, h⟩ := oS h
    obtain ⟨f20, ⟨l22, e21⟩⟩ := Kx rfl h18
    simp only [e21] at f20
    try simp only [e21] at h
    try simp only [J5, Ka, Jg, Jh, Jk, Jr, Ju, Jt, Js, Jv] at f20
    try simp only [Jg, Jh, Jk, Jr, Ju, Jt, Js, Jv] at f20
    have f23 : ∀ H : Heap, H 0 = some (.box 0 [.nils, encF Jq p0.r.Rows, I L p0.s.Pitch, I L p0.s.Height, I L p0.s.Walls, I L p0.s.Top, I L p0.s.Bottom, I L p0.s.Pattern, I L p0.s.Spacing, .bool p0.s.Support, I L p0.s.Reach, I L p0.s.Gap, I L p0.s.Brim, I L p0.s.Skirt, I L p0.s.Drop, I L p0.s.Feed, I L p0.s.Travel, I L p0.s.Retract, I L p0.s.MinTime, I L p0.s.MinFeed, I L p0.s.Nozzle, I L p0.s.Bed, I L p0.nozzle.X, I L p0.nozzle.Y]) → H 1000000 = none → Jcc (FC env) 18 H [.ptr 0 0 0, .agg [I L 4, I L 0, I L 0, I L 0, I L 0, .nils]] = some (.tup [], upd (upd H 1000000 (some (.arr 0 6 52 (Jn Jw (FS.lst l22).l) false))) 0 (some (.box 0 [.arr 1000000 0 0 (FS.lst l22).l.length, encF Jq v19.r.Rows, I L v19.s.Pitch, I L v19.s.Height, I L v19.s.Walls, I L v19.s.Top, I L v19.s.Bottom, I L v19.s.Pattern, I L v19.s.Spacing, .bool v19.s.Support, I L v19.s.Reach, I L v19.s.Gap, I L v19.s.Brim, I L v19.s.Skirt, I L v19.s.Drop, I L v19.s.Feed, I L v19.s.Travel, I L v19.s.Retract, I L v19.s.MinTime, I L v19.s.MinFeed, I L v19.s.Nozzle, I L v19.s.Bed, I L v19.nozzle.X, I L v19.nozzle.Y]))) := by
      intro H q0 q1
      simp [*, q0, q1]
    obtain ⟨v25, h24, h⟩ := oS h
    obtain ⟨f26, ⟨l28, e27⟩⟩ := J4 rfl h24
    simp only [e27] at f26
    try simp only [e27] at h
    try simp only [J5, Ka, Jg, Jh, Jk, Jr, Ju, Jt, Js, Jv] at f26
    try simp only [Jg, Jh, Jk, Jr, Ju, Jt, Js, Jv] at f26
    have f29 : ∀ H : Heap, H 0 = some (.box 0 [.arr 1000000 0 0 (FS.lst l22).l.length, encF Jq v19.r.Rows, I L v19.s.Pitch, I L v19.s.Height, I L v19.s.Walls, I L v19.s.Top, I L v19.s.Bottom, I L v19.s.Pattern, I L v19.s.Spacing, .bool v19.s.Support, I L v19.s.Reach, I L v19.s.Gap, I L v19.s.Brim, I L v19.s.Skirt, I L v19.s.Drop, I L v19.s.Feed, I L v19.s.Travel, I L v19.s.Retract, I L v19.s.MinTime, I L v19.s.MinFeed, I L v19.s.Nozzle, I L v19.s.Bed, I L v19.nozzle.X, I L v19.nozzle.Y]) → H 1000000 = some (.arr 0 6 52 (Jn Jw (FS.lst l22).l) false) → Jcc (FC env) 18 H [.ptr 0 0 0, .agg [I L 2, I L 0, I L 0, I L 0, I L v6, encF Jf v16]] = some (.tup [], upd (upd H 1000000 (some (.arr 1 6 52 (Jn Jw (FS.lst l28).l) false))) 0 (some (.box 0 [.arr 1000000 1 0 (FS.lst l28).l.length, encF Jq v25.r.Rows, I L v25.s.Pitch, I L v25.s.Height, I L v25.s.Walls, I L v25.s.Top, I L v25.s.Bottom, I L v25.s.Pattern, I L v25.s.Spacing, .bool v25.s.Support, I L v25.s.Reach, I L v25.s.Gap, I L v25.s.Brim, I L v25.s.Skirt, I L v25.s.Drop, I L v25.s.Feed, I L v25.s.Travel, I L v25.s.Retract, I L v25.s.MinTime, I L v25.s.MinFeed, I L v25.s.Nozzle, I L v25.s.Bed, I L v25.nozzle.X, I L v25.nozzle.Y]))) := by
      intro H q0 q1
      simp [*, q0, q1]
    obtain ⟨v31, h30, h⟩ := oS h
    obtain ⟨f32, ⟨l34, e33⟩⟩ := J4 rfl h30
    simp only [e33] at f32
    try simp only [e33] at h
    try simp only [J5, Ka, Jg, Jh, Jk, Jr, Ju, Jt, Js, Jv] at f32
    try simp only [Jg, Jh, Jk, Jr, Ju, Jt, Js, Jv] at f32
    have f35 : ∀ H : Heap, H 0 = some (.box 0 [.arr 1000000 1 0 (FS.lst l28).l.length, encF Jq v25.r.Rows, I L v25.s.Pitch, I L v25.s.Height, I L v25.s.Walls, I L v25.s.Top, I L v25.s.Bottom, I L v25.s.Pattern, I L v25.s.Spacing, .bool v25.s.Support, I L v25.s.Reach, I L v25.s.Gap, I L v25.s.Brim, I L v25.s.Skirt, I L v25.s.Drop, I L v25.s.Feed, I L v25.s.Travel, I L v25.s.Retract, I L v25.s.MinTime, I L v25.s.MinFeed, I L v25.s.Nozzle, I L v25.s.Bed, I L v25.nozzle.X, I L v25.nozzle.Y]) → H 1000000 = some (.arr 1 6 52 (Jn Jw (FS.lst l28).l) false) → Jcc (FC env) 18 H [.ptr 0 0 0, .agg [I L 5, I L 0, I L 0, I L 0, I L 0, .nils]] = some (.tup [], upd (upd H 1000000 (some (.arr 2 6 52 (Jn Jw (FS.lst l34).l) false))) 0 (some (.box 0 [.arr 1000000 2 0 (FS.lst l34).l.length, encF Jq v31.r.Rows, I L v31.s.Pitch, I L v31.s.Height, I L v31.s.Walls, I L v31.s.Top, I L v31.s.Bottom, I L v31.s.Pattern, I L v31.s.Spacing, .bool v31.s.Support, I L v31.s.Reach, I L v31.s.Gap, I L v31.s.Brim, I L v31.s.Skirt, I L v31.s.Drop, I L v31.s.Feed, I L v31.s.Travel, I L v31.s.Retract, I L v31.s.MinTime, I L v31.s.MinFeed, I L v31.s.Nozzle, I L v31.s.Bed, I L v31.nozzle.X, I L v31.nozzle.Y]))) := by
      intro H q0 q1
      simp [*, q0, q1]
    cases h
    refine Jav (lf := lf69) rfl rfl rfl ?_
    simp only [lf69, lc69]
    rcases tof (ieq p0.nozzle.X p1.X) with a36 | a36 <;> rcases tof (ieq p0.nozzle.Y p1.Y) with a37 | a37 <;> rcases tof v9.2 with a38 | a38 <;> rcases tof (ine p0.s.Retract 0) with a39 | a39 <;> (try (simp [a36, a37, a38, a39] at c1 c10 c17; done)) <;> (try simp only [a36, a37, a38, a39] at f4 f20 f26 f32) <;> simp [*, -Q6]
   ·obtain ⟨v41, h40, h⟩ := oS h
    obtain ⟨f42, ⟨l44, e43⟩⟩ := Kx rfl h40
    simp only [e43] at f42
    try simp only [e43] at h
    try simp only [J5, Ka, Jg, Jh, Jk, Jr, Ju, Jt, Js, Jv] at f42
    try simp only [Jg, Jh, Jk, Jr, Ju, Jt, Js, Jv] at f42
    have f45 : ∀ H : Heap, H 0 = some (.box 0 [.nils, encF Jq p0.r.Rows, I L p0.s.Pitch, I L p0.s.Height, I L p0.s.Walls, I L p0.s.Top, I L p0.s.Bottom, I L p0.s.Pattern, I L p0.s.Spacing, .bool p0.s.Support, I L p0.s.Reach, I L p0.s.Gap, I L p0.s.Brim, I L p0.s.Skirt, I L p0.s.Drop, I L p0.s.Feed, I L p0.s.Travel, I L p0.s.Retract, I L p0.s.MinTime, I L p0.s.MinFeed, I L p0.s.Nozzle, I L p0.s.Bed, I L p0.nozzle.X, I L p0.nozzle.Y]) → H 1000000 = none → Jcc (FC env) 18 H [.ptr 0 0 0, .agg [I L 2, I L 0, I L 0, I L 0, I L v6, encF Jf v16]] = some (.tup [], upd (upd H 1000000 (some (.arr 0 6 52 (Jn Jw (FS.lst l44).l) false))) 0 (some (.box 0 [.arr 1000000 0 0 (FS.lst l44).l.length, encF Jq v41.r.Rows, I L v41.s.Pitch, I L v41.s.Height, I L v41.s.Walls, I L v41.s.Top, I L v41.s.Bottom, I L v41.s.Pattern, I L v41.s.Spacing, .bool v41.s.Support, I L v41.s.Reach, I L v41.s.Gap, I L v41.s.Brim, I L v41.s.Skirt, I L v41.s.Drop, I L v41.s.Feed, I L v41.s.Travel, I L v41.s.Retract, I L v41.s.MinTime, I L v41.s.MinFeed, I L v41.s.Nozzle, I L v41.s.Bed, I L v41.nozzle.X, I L v41.nozzle.Y]))) := by
      intro H q0 q1
      simp [*, q0, q1]
    cases h
    refine Jav (lf := lf69) rfl rfl rfl ?_
    simp only [lf69, lc69]
    rcases tof (ieq p0.nozzle.X p1.X) with a46 | a46 <;> rcases tof (ieq p0.nozzle.Y p1.Y) with a47 | a47 <;> rcases tof v9.2 with a48 | a48 <;> rcases tof (ine p0.s.Retract 0) with a49 | a49 <;> (try (simp [a46, a47, a48, a49] at c1 c10 c17; done)) <;> (try simp only [a46, a47, a48, a49] at f4 f42) <;> simp [*, -Q6]
  ·obtain ⟨v52, h51, h⟩ := oS h
   have f50 := Jer (e := Jf) h51
   rcases ifC h with ⟨c53, h⟩ | ⟨c53, h⟩
   ·obtain ⟨v55, h54, h⟩ := oS h
    obtain ⟨f56, ⟨l58, e57⟩⟩ := Kx rfl h54
    simp only [e57] at f56
    try simp only [e57] at h
    try simp only [J5, Ka, Jg, Jh, Jk, Jr, Ju, Jt, Js, Jv] at f56
    try simp only [Jg, Jh, Jk, Jr, Ju, Jt, Js, Jv] at f56
    have f59 : ∀ H : Heap, H 0 = some (.box 0 [.nils, encF Jq p0.r.Rows, I L p0.s.Pitch, I L p0.s.Height, I L p0.s.Walls, I L p0.s.Top, I L p0.s.Bottom, I L p0.s.Pattern, I L p0.s.Spacing, .bool p0.s.Support, I L p0.s.Reach, I L p0.s.Gap, I L p0.s.Brim, I L p0.s.Skirt, I L p0.s.Drop, I L p0.s.Feed, I L p0.s.Travel, I L p0.s.Retract, I L p0.s.MinTime, I L p0.s.MinFeed, I L p0.s.Nozzle, I L p0.s.Bed, I L p0.nozzle.X, I L p0.nozzle.Y]) → H 1000000 = none → Jcc (FC env) 18 H [.ptr 0 0 0, .agg [I L 4, I L 0, I L 0, I L 0, I L 0, .nils]] = some (.tup [], upd (upd H 1000000 (some (.arr 0 6 52 (Jn Jw (FS.lst l58).l) false))) 0 (some (.box 0 [.arr 1000000 0 0 (FS.lst l58).l.length, encF Jq v55.r.Rows, I L v55.s.Pitch, I L v55.s.Height, I L v55.s.Walls, I L v55.s.Top, I L v55.s.Bottom, I L v55.s.Pattern, I L v55.s.Spacing, .bool v55.s.Support, I L v55.s.Reach, I L v55.s.Gap, I L v55.s.Brim, I L v55.s.Skirt, I L v55.s.Drop, I L v55.s.Feed, I L v55.s.Travel, I L v55.s.Retract, I L v55.s.MinTime, I L v55.s.MinFeed, I L v55.s.Nozzle, I L v55.s.Bed, I L v55.nozzle.X, I L v55.nozzle.Y]))) := by
      intro H q0 q1
      simp [*, q0, q1]
    obtain ⟨v61, h60, h⟩ := oS h
    obtain ⟨f62, ⟨l64, e63⟩⟩ := J4 rfl h60
    simp only [e63] at f62
    try simp only [e63] at h
    try simp only [J5, Ka, Jg, Jh, Jk, Jr, Ju, Jt, Js, Jv] at f62
    try simp only [Jg, Jh, Jk, Jr, Ju, Jt, Js, Jv] at f62
    have f65 : ∀ H : Heap, H 0 = some (.box 0 [.arr 1000000 0 0 (FS.lst l58).l.length, encF Jq v55.r.Rows, I L v55.s.Pitch, I L v55.s.Height, I L v55.s.Walls, I L v55.s.Top, I L v55.s.Bottom, I L v55.s.Pattern, I L v55.s.Spacing, .bool v55.s.Support, I L v55.s.Reach, I L v55.s.Gap, I L v55.s.Brim, I L v55.s.Skirt, I L v55.s.Drop, I L v55.s.Feed, I L v55.s.Travel, I L v55.s.Retract, I L v55.s.MinTime, I L v55.s.MinFeed, I L v55.s.Nozzle, I L v55.s.Bed, I L v55.nozzle.X, I L v55.nozzle.Y]) → H 1000000 = some (.arr 0 6 52 (Jn Jw (FS.lst l58).l) false) → Jcc (FC env) 18 H [.ptr 0 0 0, .agg [I L 2, I L 0, I L 0, I L 0, I L v6, encF Jf v52]] = some (.tup [], upd (upd H 1000000 (some (.arr 1 6 52 (Jn Jw (FS.lst l64).l) false))) 0 (some (.box 0 [.arr 1000000 1 0 (FS.lst l64).l.length, encF Jq v61.r.Rows, I L v61.s.Pitch, I L v61.s.Height, I L v61.s.Walls, I L v61.s.Top, I L v61.s.Bottom, I L v61.s.Pattern, I L v61.s.Spacing, .bool v61.s.Support, I L v61.s.Reach, I L v61.s.Gap, I L v61.s.Brim, I L v61.s.Skirt, I L v61.s.Drop, I L v61.s.Feed, I L v61.s.Travel, I L v61.s.Retract, I L v61.s.MinTime, I L v61.s.MinFeed, I L v61.s.Nozzle, I L v61.s.Bed, I L v61.nozzle.X, I L v61.nozzle.Y]))) := by
      intro H q0 q1
      simp [*, q0, q1]
    obtain ⟨v67, h66, h⟩ := oS h
    obtain ⟨f68, ⟨l70, e69⟩⟩ := J4 rfl h66
    simp only [e69] at f68
    try simp only [e69] at h
    try simp only [J5, Ka, Jg, Jh, Jk, Jr, Ju, Jt, Js, Jv] at f68
    try simp only [Jg, Jh, Jk, Jr, Ju, Jt, Js, Jv] at f68
    have f71 : ∀ H : Heap, H 0 = some (.box 0 [.arr 1000000 1 0 (FS.lst l64).l.length, encF Jq v61.r.Rows, I L v61.s.Pitch, I L v61.s.Height, I L v61.s.Walls, I L v61.s.Top, I L v61.s.Bottom, I L v61.s.Pattern, I L v61.s.Spacing, .bool v61.s.Support, I L v61.s.Reach, I L v61.s.Gap, I L v61.s.Brim, I L v61.s.Skirt, I L v61.s.Drop, I L v61.s.Feed, I L v61.s.Travel, I L v61.s.Retract, I L v61.s.MinTime, I L v61.s.MinFeed, I L v61.s.Nozzle, I L v61.s.Bed, I L v61.nozzle.X, I L v61.nozzle.Y]) → H 1000000 = some (.arr 1 6 52 (Jn Jw (FS.lst l64).l) false) → Jcc (FC env) 18 H [.ptr 0 0 0, .agg [I L 5, I L 0, I L 0, I L 0, I L 0, .nils]] = some (.tup [], upd (upd H 1000000 (some (.arr 2 6 52 (Jn Jw (FS.lst l70).l) false))) 0 (some (.box 0 [.arr 1000000 2 0 (FS.lst l70).l.length, encF Jq v67.r.Rows, I L v67.s.Pitch, I L v67.s.Height, I L v67.s.Walls, I L v67.s.Top, I L v67.s.Bottom, I L v67.s.Pattern, I L v67.s.Spacing, .bool v67.s.Support, I L v67.s.Reach, I L v67.s.Gap, I L v67.s.Brim, I L v67.s.Skirt, I L v67.s.Drop, I L v67.s.Feed, I L v67.s.Travel, I L v67.s.Retract, I L v67.s.MinTime, I L v67.s.MinFeed, I L v67.s.Nozzle, I L v67.s.Bed, I L v67.nozzle.X, I L v67.nozzle.Y]))) := by
      intro H q0 q1
      simp [*, q0, q1]
    cases h
    refine Jav (lf := lf69) rfl rfl rfl ?_
    simp only [lf69, lc69]
    rcases tof (ieq p0.nozzle.X p1.X) with a72 | a72 <;> rcases tof (ieq p0.nozzle.Y p1.Y) with a73 | a73 <;> rcases tof v9.2 with a74 | a74 <;> (try (simp [a72, a73, a74] at c1 c53 c10; done)) <;> (try simp only [a72, a73, a74] at f4 f56 f62 f68) <;> simp [*, -Q6]
   ·obtain ⟨v76, h75, h⟩ := oS h
    obtain ⟨f77, ⟨l79, e78⟩⟩ := Kx rfl h75
    simp only [e78] at f77
    try simp only [e78] at h
    try simp only [J5, Ka, Jg, Jh, Jk, Jr, Ju, Jt, Js, Jv] at f77
    try simp only [Jg, Jh, Jk, Jr, Ju, Jt, Js, Jv] at f77
    have f80 : ∀ H : Heap, H 0 = some (.box 0 [.nils, encF Jq p0.r.Rows, I L p0.s.Pitch, I L p0.s.Height, I L p0.s.Walls, I L p0.s.Top, I L p0.s.Bottom, I L p0.s.Pattern, I L p0.s.Spacing, .bool p0.s.Support, I L p0.s.Reach, I L p0.s.Gap, I L p0.s.Brim, I L p0.s.Skirt, I L p0.s.Drop, I L p0.s.Feed, I L p0.s.Travel, I L p0.s.Retract, I L p0.s.MinTime, I L p0.s.MinFeed, I L p0.s.Nozzle, I L p0.s.Bed, I L p0.nozzle.X, I L p0.nozzle.Y]) → H 1000000 = none → Jcc (FC env) 18 H [.ptr 0 0 0, .agg [I L 2, I L 0, I L 0, I L 0, I L v6, encF Jf v52]] = some (.tup [], upd (upd H 1000000 (some (.arr 0 6 52 (Jn Jw (FS.lst l79).l) false))) 0 (some (.box 0 [.arr 1000000 0 0 (FS.lst l79).l.length, encF Jq v76.r.Rows, I L v76.s.Pitch, I L v76.s.Height, I L v76.s.Walls, I L v76.s.Top, I L v76.s.Bottom, I L v76.s.Pattern, I L v76.s.Spacing, .bool v76.s.Support, I L v76.s.Reach, I L v76.s.Gap, I L v76.s.Brim, I L v76.s.Skirt, I L v76.s.Drop, I L v76.s.Feed, I L v76.s.Travel, I L v76.s.Retract, I L v76.s.MinTime, I L v76.s.MinFeed, I L v76.s.Nozzle, I L v76.s.Bed, I L v76.nozzle.X, I L v76.nozzle.Y]))) := by
      intro H q0 q1
      simp [*, q0, q1]
    cases h
    refine Jav (lf := lf69) rfl rfl rfl ?_
    simp only [lf69, lc69]
    rcases tof (ieq p0.nozzle.X p1.X) with a81 | a81 <;> rcases tof (ieq p0.nozzle.Y p1.Y) with a82 | a82 <;> rcases tof v9.2 with a83 | a83 <;> (try (simp [a81, a82, a83] at c1 c10; done)) <;> (try simp only [a81, a82, a83] at f4 f77) <;> simp [*, -Q6]
theorem Jgw {p0 : Jo} {p1 : Ja} {le000 : List J1} (e000 : p0.list.ops = FS.lst le000) {r} (h : Yk p0 p1 = some r) : FC env 69 [.ptr 0 0 0, .agg [I L p1.X, I L p1.Y]] (some (hl [(0, .box 0 [.arr 1000000 0 0 p0.list.ops.l.length, encF Jq p0.r.Rows, I L p0.s.Pitch, I L p0.s.Height, I L p0.s.Walls, I L p0.s.Top, I L p0.s.Bottom, I L p0.s.Pattern, I L p0.s.Spacing, .bool p0.s.Support, I L p0.s.Reach, I L p0.s.Gap, I L p0.s.Brim, I L p0.s.Skirt, I L p0.s.Drop, I L p0.s.Feed, I L p0.s.Travel, I L p0.s.Retract, I L p0.s.MinTime, I L p0.s.MinFeed, I L p0.s.Nozzle, I L p0.s.Bed, I L p0.nozzle.X, I L p0.nozzle.Y]), (1000000, .arr 0 6 52 (Jn Jw p0.list.ops.l) false)], 0)) = some (.tup [], hl [(0, .box 0 [.arr 1000000 0 0 r.list.ops.l.length, encF Jq r.r.Rows, I L r.s.Pitch, I L r.s.Height, I L r.s.Walls, I L r.s.Top, I L r.s.Bottom, I L r.s.Pattern, I L r.s.Spacing, .bool r.s.Support, I L r.s.Reach, I L r.s.Gap, I L r.s.Brim, I L r.s.Skirt, I L r.s.Drop, I L r.s.Feed, I L r.s.Travel, I L r.s.Retract, I L r.s.MinTime, I L r.s.MinFeed, I L r.s.Nozzle, I L r.s.Bed, I L r.nozzle.X, I L r.nozzle.Y]), (1000000, .arr 0 6 52 (Jn Jw r.list.ops.l) false)]) ∧ ∃ l, r.list.ops = FS.lst l := by
 unfold Yk at h
 simp only [e000, Jx] at h
 rcases ifC h with ⟨c1, h⟩ | ⟨c1, h⟩
 ·cases h
  refine ⟨?_, by first | exact ⟨_, rfl⟩ | exact ⟨_, by assumption⟩⟩
  refine Jav (lf := lf69) rfl rfl rfl ?_
  simp only [lf69, lc69]
  rcases tof (ieq p0.nozzle.X p1.X) with a2 | a2 <;> rcases tof (ieq p0.nozzle.Y p1.Y) with a3 | a3 <;> (try (simp [a2, a3] at c1; done)) <;> simp [*]
 ·obtain ⟨v6, h5, h⟩ := oS h
  have f4 := zq h5
  obtain ⟨v9, h8, h⟩ := oS h
  have f7 := Jl6 h8
  rcases ifC h with ⟨c10, h⟩ | ⟨c10, h⟩
  ·obtain ⟨v13, h12, h⟩ := oS h
   have f11 := Jiz h12
   obtain ⟨v16, h15, h⟩ := oS h
   have f14 := Jer (e := Jf) h15
   rcases ifC h with ⟨c17, h⟩ | ⟨c17, h⟩
   ·obtain ⟨v19, h18, h⟩ := oS h
    obtain ⟨f20, ⟨l22, e21⟩⟩ := J4 rfl h18
    simp only [e21] at f20
    try simp only [e21] at h
    try simp only [J5, Ka, Jg, Jh, Jk, Jr, Ju, Jt, Js, Jv] at f20
    try simp only [Jg, Jh, Jk, Jr, Ju, Jt, Js, Jv] at f20
    have f23 : ∀ H : Heap, H 0 = some (.box 0 [.arr 1000000 0 0 (FS.lst le000).l.length, encF Jq p0.r.Rows, I L p0.s.Pitch, I L p0.s.Height, I L p0.s.Walls, I L p0.s.Top, I L p0.s.Bottom, I L p0.s.Pattern, I L p0.s.Spacing, .bool p0.s.Support, I L p0.s.Reach, I L p0.s.Gap, I L p0.s.Brim, I L p0.s.Skirt, I L p0.s.Drop, I L p0.s.Feed, I L p0.s.Travel, I L p0.s.Retract, I L p0.s.MinTime, I L p0.s.MinFeed, I L p0.s.Nozzle, I L p0.s.Bed, I L p0.nozzle.X, I L p0.nozzle.Y]) → H 1000000 = some (.arr 0 6 52 (Jn Jw (FS.lst le000).l) false) → Jcc (FC env) 18 H [.ptr 0 0 0, .agg [I L 4, I L 0, I L 0, I L 0, I L 0, .nils]] = some (.tup [], upd (upd H 1000000 (some (.arr 1 6 52 (Jn Jw (FS.lst l22).l) false))) 0 (some (.box 0 [.arr 1000000 1 0 (FS.lst l22).l.length, encF Jq v19.r.Rows, I L v19.s.Pitch, I L v19.s.Height, I L v19.s.Walls, I L v19.s.Top, I L v19.s.Bottom, I L v19.s.Pattern, I L v19.s.Spacing, .bool v19.s.Support, I L v19.s.Reach, I L v19.s.Gap, I L v19.s.Brim, I L v19.s.Skirt, I L v19.s.Drop, I L v19.s.Feed, I L v19.s.Travel, I L v19.s.Retract, I L v19.s.MinTime, I L v19.s.MinFeed, I L v19.s.Nozzle, I L v19.s.Bed, I L v19.nozzle.X, I L v19.nozzle.Y]))) := by
      intro H q0 q1
      simp [*, q0, q1]
    obtain ⟨v25, h24, h⟩ := oS h
    obtain ⟨f26, ⟨l28, e27⟩⟩ := J4 rfl h24
    simp only [e27] at f26
    try simp only [e27] at h
    try simp only [J5, Ka, Jg, Jh, Jk, Jr, Ju, Jt, Js, Jv] at f26
    try simp only [Jg, Jh, Jk, Jr, Ju, Jt, Js, Jv] at f26
    have f29 : ∀ H : Heap, H 0 = some (.box 0 [.arr 1000000 1 0 (FS.lst l22).l.length, encF Jq v19.r.Rows, I L v19.s.Pitch, I L v19.s.Height, I L v19.s.Walls, I L v19.s.Top, I L v19.s.Bottom, I L v19.s.Pattern, I L v19.s.Spacing, .bool v19.s.Support, I L v19.s.Reach, I L v19.s.Gap, I L v19.s.Brim, I L v19.s.Skirt, I L v19.s.Drop, I L v19.s.Feed, I L v19.s.Travel, I L v19.s.Retract, I L v19.s.MinTime, I L v19.s.MinFeed, I L v19.s.Nozzle, I L v19.s.Bed, I L v19.nozzle.X, I L v19.nozzle.Y]) → H 1000000 = some (.arr 1 6 52 (Jn Jw (FS.lst l22).l) false) → Jcc (FC env) 18 H [.ptr 0 0 0, .agg [I L 2, I L 0, I L 0, I L 0, I L v6, encF Jf v16]] = some (.tup [], upd (upd H 1000000 (some (.arr 2 6 52 (Jn Jw (FS.lst l28).l) false))) 0 (some (.box 0 [.arr 1000000 2 0 (FS.lst l28).l.length, encF Jq v25.r.Rows, I L v25.s.Pitch, I L v25.s.Height, I L v25.s.Walls, I L v25.s.Top, I L v25.s.Bottom, I L v25.s.Pattern, I L v25.s.Spacing, .bool v25.s.Support, I L v25.s.Reach, I L v25.s.Gap, I L v25.s.Brim, I L v25.s.Skirt, I L v25.s.Drop, I L v25.s.Feed, I L v25.s.Travel, I L v25.s.Retract, I L v25.s.MinTime, I L v25.s.MinFeed, I L v25.s.Nozzle, I L v25.s.Bed, I L v25.nozzle.X, I L v25.nozzle.Y]))) := by
      intro H q0 q1
      simp [*, q0, q1]
    obtain ⟨v31, h30, h⟩ := oS h
    obtain ⟨f32, ⟨l34, e33⟩⟩ := J4 rfl h30
    simp only [e33] at f32
    try simp only [e33] at h
    try simp only [J5, Ka, Jg, Jh, Jk, Jr, Ju, Jt, Js, Jv] at f32
    try simp only [Jg, Jh, Jk, Jr, Ju, Jt, Js, Jv] at f32
    have f35 : ∀ H : Heap, H 0 = some (.box 0 [.arr 1000000 2 0 (FS.lst l28).l.length, encF Jq v25.r.Rows, I L v25.s.Pitch, I L v25.s.Height, I L v25.s.Walls, I L v25.s.Top, I L v25.s.Bottom, I L v25.s.Pattern, I L v25.s.Spacing, .bool v25.s.Support, I L v25.s.Reach, I L v25.s.Gap, I L v25.s.Brim, I L v25.s.Skirt, I L v25.s.Drop, I L v25.s.Feed, I L v25.s.Travel, I L v25.s.Retract, I L v25.s.MinTime, I L v25.s.MinFeed, I L v25.s.Nozzle, I L v25.s.Bed, I L v25.nozzle.X, I L v25.nozzle.Y]) → H 1000000 = some (.arr 2 6 52 (Jn Jw (FS.lst l28).l) false) → Jcc (FC env) 18 H [.ptr 0 0 0, .agg [I L 5, I L 0, I L 0, I L 0, I L 0, .nils]] = some (.tup [], upd (upd H 1000000 (some (.arr 3 6 52 (Jn Jw (FS.lst l34).l) false))) 0 (some (.box 0 [.arr 1000000 3 0 (FS.lst l34).l.length, encF Jq v31.r.Rows, I L v31.s.Pitch, I L v31.s.Height, I L v31.s.Walls, I L v31.s.Top, I L v31.s.Bottom, I L v31.s.Pattern, I L v31.s.Spacing, .bool v31.s.Support, I L v31.s.Reach, I L v31.s.Gap, I L v31.s.Brim, I L v31.s.Skirt, I L v31.s.Drop, I L v31.s.Feed, I L v31.s.Travel, I L v31.s.Retract, I L v31.s.MinTime, I L v31.s.MinFeed, I L v31.s.Nozzle, I L v31.s.Bed, I L v31.nozzle.X, I L v31.nozzle.Y]))) := by
      intro H q0 q1
      simp [*, q0, q1]
    cases h
    refine ⟨?_, by first | exact ⟨_, rfl⟩ | exact ⟨_, by assumption⟩⟩
    refine Jav (lf := lf69) rfl rfl rfl ?_
    simp only [lf69, lc69]
    rcases tof (ieq p0.nozzle.X p1.X) with a36 | a36 <;> rcases tof (ieq p0.nozzle.Y p1.Y) with a37 | a37 <;> rcases tof v9.2 with a38 | a38 <;> rcases tof (ine p0.s.Retract 0) with a39 | a39 <;> (try (simp [a36, a37, a38, a39] at c1 c10 c17; done)) <;> (try simp only [a36, a37, a38, a39] at f4 f20 f26 f32) <;> simp [*, -Q6, Kq (e := Jw) (el := 52) (fz := false)]
   ·obtain ⟨v41, h40, h⟩ := oS h
    obtain ⟨f42, ⟨l44, e43⟩⟩ := J4 rfl h40
    simp only [e43] at f42
    try simp only [e43] at h
    try simp only [J5, Ka, Jg, Jh, Jk, Jr, Ju, Jt, Js, Jv] at f42
    try simp only [Jg, Jh, Jk, Jr, Ju, Jt, Js, Jv] at f42
    have f45 : ∀ H : Heap, H 0 = some (.box 0 [.arr 1000000 0 0 (FS.lst le000).l.length, encF Jq p0.r.Rows, I L p0.s.Pitch, I L p0.s.Height, I L p0.s.Walls, I L p0.s.Top, I L p0.s.Bottom, I L p0.s.Pattern, I L p0.s.Spacing, .bool p0.s.Support, I L p0.s.Reach, I L p0.s.Gap, I L p0.s.Brim, I L p0.s.Skirt, I L p0.s.Drop, I L p0.s.Feed, I L p0.s.Travel, I L p0.s.Retract, I L p0.s.MinTime, I L p0.s.MinFeed, I L p0.s.Nozzle, I L p0.s.Bed, I L p0.nozzle.X, I L p0.nozzle.Y]) → H 1000000 = some (.arr 0 6 52 (Jn Jw (FS.lst le000).l) false) → Jcc (FC env) 18 H [.ptr 0 0 0, .agg [I L 2, I L 0, I L 0, I L 0, I L v6, encF Jf v16]] = some (.tup [], upd (upd H 1000000 (some (.arr 1 6 52 (Jn Jw (FS.lst l44).l) false))) 0 (some (.box 0 [.arr 1000000 1 0 (FS.lst l44).l.length, encF Jq v41.r.Rows, I L v41.s.Pitch, I L v41.s.Height, I L v41.s.Walls, I L v41.s.Top, I L v41.s.Bottom, I L v41.s.Pattern, I L v41.s.Spacing, .bool v41.s.Support, I L v41.s.Reach, I L v41.s.Gap, I L v41.s.Brim, I L v41.s.Skirt, I L v41.s.Drop, I L v41.s.Feed, I L v41.s.Travel, I L v41.s.Retract, I L v41.s.MinTime, I L v41.s.MinFeed, I L v41.s.Nozzle, I L v41.s.Bed, I L v41.nozzle.X, I L v41.nozzle.Y]))) := by
      intro H q0 q1
      simp [*, q0, q1]
    cases h
    refine ⟨?_, by first | exact ⟨_, rfl⟩ | exact ⟨_, by assumption⟩⟩
    refine Jav (lf := lf69) rfl rfl rfl ?_
    simp only [lf69, lc69]
    rcases tof (ieq p0.nozzle.X p1.X) with a46 | a46 <;> rcases tof (ieq p0.nozzle.Y p1.Y) with a47 | a47 <;> rcases tof v9.2 with a48 | a48 <;> rcases tof (ine p0.s.Retract 0) with a49 | a49 <;> (try (simp [a46, a47, a48, a49] at c1 c10 c17; done)) <;> (try simp only [a46, a47, a48, a49] at f4 f42) <;> simp [*, -Q6, Kq (e := Jw) (el := 52) (fz := false)]
  ·obtain ⟨v52, h51, h⟩ := oS h
   have f50 := Jer (e := Jf) h51
   rcases ifC h with ⟨c53, h⟩ | ⟨c53, h⟩
   ·obtain ⟨v55, h54, h⟩ := oS h
    obtain ⟨f56, ⟨l58, e57⟩⟩ := J4 rfl h54
    simp only [e57] at f56
    try simp only [e57] at h
    try simp only [J5, Ka, Jg, Jh, Jk, Jr, Ju, Jt, Js, Jv] at f56
    try simp only [Jg, Jh, Jk, Jr, Ju, Jt, Js, Jv] at f56
    have f59 : ∀ H : Heap, H 0 = some (.box 0 [.arr 1000000 0 0 (FS.lst le000).l.length, encF Jq p0.r.Rows, I L p0.s.Pitch, I L p0.s.Height, I L p0.s.Walls, I L p0.s.Top, I L p0.s.Bottom, I L p0.s.Pattern, I L p0.s.Spacing, .bool p0.s.Support, I L p0.s.Reach, I L p0.s.Gap, I L p0.s.Brim, I L p0.s.Skirt, I L p0.s.Drop, I L p0.s.Feed, I L p0.s.Travel, I L p0.s.Retract, I L p0.s.MinTime, I L p0.s.MinFeed, I L p0.s.Nozzle, I L p0.s.Bed, I L p0.nozzle.X, I L p0.nozzle.Y]) → H 1000000 = some (.arr 0 6 52 (Jn Jw (FS.lst le000).l) false) → Jcc (FC env) 18 H [.ptr 0 0 0, .agg [I L 4, I L 0, I L 0, I L 0, I L 0, .nils]] = some (.tup [], upd (upd H 1000000 (some (.arr 1 6 52 (Jn Jw (FS.lst l58).l) false))) 0 (some (.box 0 [.arr 1000000 1 0 (FS.lst l58).l.length, encF Jq v55.r.Rows, I L v55.s.Pitch, I L v55.s.Height, I L v55.s.Walls, I L v55.s.Top, I L v55.s.Bottom, I L v55.s.Pattern, I L v55.s.Spacing, .bool v55.s.Support, I L v55.s.Reach, I L v55.s.Gap, I L v55.s.Brim, I L v55.s.Skirt, I L v55.s.Drop, I L v55.s.Feed, I L v55.s.Travel, I L v55.s.Retract, I L v55.s.MinTime, I L v55.s.MinFeed, I L v55.s.Nozzle, I L v55.s.Bed, I L v55.nozzle.X, I L v55.nozzle.Y]))) := by
      intro H q0 q1
      simp [*, q0, q1]
    obtain ⟨v61, h60, h⟩ := oS h
    obtain ⟨f62, ⟨l64, e63⟩⟩ := J4 rfl h60
    simp only [e63] at f62
    try simp only [e63] at h
    try simp only [J5, Ka, Jg, Jh, Jk, Jr, Ju, Jt, Js, Jv] at f62
    try simp only [Jg, Jh, Jk, Jr, Ju, Jt, Js, Jv] at f62
    have f65 : ∀ H : Heap, H 0 = some (.box 0 [.arr 1000000 1 0 (FS.lst l58).l.length, encF Jq v55.r.Rows, I L v55.s.Pitch, I L v55.s.Height, I L v55.s.Walls, I L v55.s.Top, I L v55.s.Bottom, I L v55.s.Pattern, I L v55.s.Spacing, .bool v55.s.Support, I L v55.s.Reach, I L v55.s.Gap, I L v55.s.Brim, I L v55.s.Skirt, I L v55.s.Drop, I L v55.s.Feed, I L v55.s.Travel, I L v55.s.Retract, I L v55.s.MinTime, I L v55.s.MinFeed, I L v55.s.Nozzle, I L v55.s.Bed, I L v55.nozzle.X, I L v55.nozzle.Y]) → H 1000000 = some (.arr 1 6 52 (Jn Jw (FS.lst l58).l) false) → Jcc (FC env) 18 H [.ptr 0 0 0, .agg [I L 2, I L 0, I L 0, I L 0, I L v6, encF Jf v52]] = some (.tup [], upd (upd H 1000000 (some (.arr 2 6 52 (Jn Jw (FS.lst l64).l) false))) 0 (some (.box 0 [.arr 1000000 2 0 (FS.lst l64).l.length, encF Jq v61.r.Rows, I L v61.s.Pitch, I L v61.s.Height, I L v61.s.Walls, I L v61.s.Top, I L v61.s.Bottom, I L v61.s.Pattern, I L v61.s.Spacing, .bool v61.s.Support, I L v61.s.Reach, I L v61.s.Gap, I L v61.s.Brim, I L v61.s.Skirt, I L v61.s.Drop, I L v61.s.Feed, I L v61.s.Travel, I L v61.s.Retract, I L v61.s.MinTime, I L v61.s.MinFeed, I L v61.s.Nozzle, I L v61.s.Bed, I L v61.nozzle.X, I L v61.nozzle.Y]))) := by
      intro H q0 q1
      simp [*, q0, q1]
    obtain ⟨v67, h66, h⟩ := oS h
    obtain ⟨f68, ⟨l70, e69⟩⟩ := J4 rfl h66
    simp only [e69] at f68
    try simp only [e69] at h
    try simp only [J5, Ka, Jg, Jh, Jk, Jr, Ju, Jt, Js, Jv] at f68
    try simp only [Jg, Jh, Jk, Jr, Ju, Jt, Js, Jv] at f68
    have f71 : ∀ H : Heap, H 0 = some (.box 0 [.arr 1000000 2 0 (FS.lst l64).l.length, encF Jq v61.r.Rows, I L v61.s.Pitch, I L v61.s.Height, I L v61.s.Walls, I L v61.s.Top, I L v61.s.Bottom, I L v61.s.Pattern, I L v61.s.Spacing, .bool v61.s.Support, I L v61.s.Reach, I L v61.s.Gap, I L v61.s.Brim, I L v61.s.Skirt, I L v61.s.Drop, I L v61.s.Feed, I L v61.s.Travel, I L v61.s.Retract, I L v61.s.MinTime, I L v61.s.MinFeed, I L v61.s.Nozzle, I L v61.s.Bed, I L v61.nozzle.X, I L v61.nozzle.Y]) → H 1000000 = some (.arr 2 6 52 (Jn Jw (FS.lst l64).l) false) → Jcc (FC env) 18 H [.ptr 0 0 0, .agg [I L 5, I L 0, I L 0, I L 0, I L 0, .nils]] = some (.tup [], upd (upd H 1000000 (some (.arr 3 6 52 (Jn Jw (FS.lst l70).l) false))) 0 (some (.box 0 [.arr 1000000 3 0 (FS.lst l70).l.length, encF Jq v67.r.Rows, I L v67.s.Pitch, I L v67.s.Height, I L v67.s.Walls, I L v67.s.Top, I L v67.s.Bottom, I L v67.s.Pattern, I L v67.s.Spacing, .bool v67.s.Support, I L v67.s.Reach, I L v67.s.Gap, I L v67.s.Brim, I L v67.s.Skirt, I L v67.s.Drop, I L v67.s.Feed, I L v67.s.Travel, I L v67.s.Retract, I L v67.s.MinTime, I L v67.s.MinFeed, I L v67.s.Nozzle, I L v67.s.Bed, I L v67.nozzle.X, I L v67.nozzle.Y]))) := by
      intro H q0 q1
      simp [*, q0, q1]
    cases h
    refine ⟨?_, by first | exact ⟨_, rfl⟩ | exact ⟨_, by assumption⟩⟩
    refine Jav (lf := lf69) rfl rfl rfl ?_
    simp only [lf69, lc69]
    rcases tof (ieq p0.nozzle.X p1.X) with a72 | a72 <;> rcases tof (ieq p0.nozzle.Y p1.Y) with a73 | a73 <;> rcases tof v9.2 with a74 | a74 <;> (try (simp [a72, a73, a74] at c1 c53 c10; done)) <;> (try simp only [a72, a73, a74] at f4 f56 f62 f68) <;> simp [*, -Q6, Kq (e := Jw) (el := 52) (fz := false)]
   ·obtain ⟨v76, h75, h⟩ := oS h
    obtain ⟨f77, ⟨l79, e78⟩⟩ := J4 rfl h75
    simp only [e78] at f77
    try simp only [e78] at h
    try simp only [J5, Ka, Jg, Jh, Jk, Jr, Ju, Jt, Js, Jv] at f77
    try simp only [Jg, Jh, Jk, Jr, Ju, Jt, Js, Jv] at f77
    have f80 : ∀ H : Heap, H 0 = some (.box 0 [.arr 1000000 0 0 (FS.lst le000).l.length, encF Jq p0.r.Rows, I L p0.s.Pitch, I L p0.s.Height, I L p0.s.Walls, I L p0.s.Top, I L p0.s.Bottom, I L p0.s.Pattern, I L p0.s.Spacing, .bool p0.s.Support, I L p0.s.Reach, I L p0.s.Gap, I L p0.s.Brim, I L p0.s.Skirt, I L p0.s.Drop, I L p0.s.Feed, I L p0.s.Travel, I L p0.s.Retract, I L p0.s.MinTime, I L p0.s.MinFeed, I L p0.s.Nozzle, I L p0.s.Bed, I L p0.nozzle.X, I L p0.nozzle.Y]) → H 1000000 = some (.arr 0 6 52 (Jn Jw (FS.lst le000).l) false) → Jcc (FC env) 18 H [.ptr 0 0 0, .agg [I L 2, I L 0, I L 0, I L 0, I L v6, encF Jf v52]] = some (.tup [], upd (upd H 1000000 (some (.arr 1 6 52 (Jn Jw (FS.lst l79).l) false))) 0 (some (.box 0 [.arr 1000000 1 0 (FS.lst l79).l.length, encF Jq v76.r.Rows, I L v76.s.Pitch, I L v76.s.Height, I L v76.s.Walls, I L v76.s.Top, I L v76.s.Bottom, I L v76.s.Pattern, I L v76.s.Spacing, .bool v76.s.Support, I L v76.s.Reach, I L v76.s.Gap, I L v76.s.Brim, I L v76.s.Skirt, I L v76.s.Drop, I L v76.s.Feed, I L v76.s.Travel, I L v76.s.Retract, I L v76.s.MinTime, I L v76.s.MinFeed, I L v76.s.Nozzle, I L v76.s.Bed, I L v76.nozzle.X, I L v76.nozzle.Y]))) := by
      intro H q0 q1
      simp [*, q0, q1]
    cases h
    refine ⟨?_, by first | exact ⟨_, rfl⟩ | exact ⟨_, by assumption⟩⟩
    refine Jav (lf := lf69) rfl rfl rfl ?_
    simp only [lf69, lc69]
    rcases tof (ieq p0.nozzle.X p1.X) with a81 | a81 <;> rcases tof (ieq p0.nozzle.Y p1.Y) with a82 | a82 <;> rcases tof v9.2 with a83 | a83 <;> (try (simp [a81, a82, a83] at c1 c10; done)) <;> (try simp only [a81, a82, a83] at f4 f77) <;> simp [*, -Q6, Kq (e := Jw) (el := 52) (fz := false)]
end Go.Proofs.YtemehoioeoohmaaGreat
