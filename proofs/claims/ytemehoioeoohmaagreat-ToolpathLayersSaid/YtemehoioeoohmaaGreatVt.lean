/- Rules for calls that share boxes and rows, as equations for rewriting. Conditions: none. -/
import Derived.Test.YtemehoioeoohmaaGreatVs
namespace Go.Vv
open Go
set_option linter.unusedSectionVars false
section
variable (h h1 : Heap) (call : Call) (f : FuncId)
def normK (h : Heap) (F : Nat → AV) (ks : List Nat) : Option (List Win) → Option St
 | some tb => Jq7 h F ks (mkTb h false F ks tb)
 | none => none
theorem J7s (p : Nat) (ps ks : List Nat) (F : Nat → AV) : norm (p :: ps) ks ⟨F, h⟩ = normK h F ks (Jqw h (p :: ps) []) := by
 unfold norm normK
 cases Jqw h (p :: ps) [] <;> rfl
theorem Jyw (F : Nat → AV) (ks : List Nat) (tb : List Win) : normK h F ks (some tb) = Jq7 h F ks (mkTb h false F ks tb) := rfl
def pinK (h : Heap) (r : List Nat) : Option (List Win) → Option (List Win)
 | some tb => Jqw h r tb
 | none => none
theorem J4f (tb : List Win) : Jqw h [] tb = some tb := rfl
theorem Jzk (i : Nat) (r : List Nat) (tb : List Win) : Jqw h (i :: r) tb = pinK h r (pin1 h i tb (h i)) := by
 unfold Jqw pinK
 cases pin1 h i tb (h i) <;> rfl
theorem J61 (r : List Nat) (tb : List Win) : pinK h r (some tb) = Jqw h r tb := rfl
theorem pin1_box (i : Nat) (tb : List Win) (c : List AV) : pin1 h i tb (some (.box 0 c)) = if Jgg tb i = none then some (addB h tb i i c) else none := rfl
theorem pin1_arr (i e : Nat) (el : TypeId) (tb : List Win) (c : List AV) (z : Bool) : pin1 h i tb (some (.arr 0 e el c z)) = if Jgg tb i = none then some (tb ++ [⟨i, i, 0, 0, c.length / e⟩]) else none := rfl
theorem pin1_map (i : Nat) (tb : List Win) (es : List (AV × AV)) (z : Bool) : pin1 h i tb (some (.map 0 es z)) = if Jgg tb i = none then some (tb ++ [⟨i, i, 0, 0, 0⟩]) else none := rfl
theorem J16 (pins : List Nat) (v : AV) : Jk4 pins h (some v) = if Jp1 pins v = true then endR v (norm pins [] ⟨fun _ => .any, h⟩) else endS pins h (snap h depth v) := rfl
theorem J5l (pins : List Nat) (u : AV) (ns : List Nat) : endS pins h (some (u, ns)) = endR u (norm pins [] ⟨fun _ => .any, Kg h ns⟩) := rfl
theorem J79 (v : AV) (τ : St) : endR v (some τ) = some (v, τ.h) := rfl
theorem J1d (pins : List Nat) (g o : Nat) : Jp1 pins (.ptr g 0 o) = pins.contains g := rfl
theorem J74 (pins : List Nat) (l : List AV) : Jp1 pins (.tup l) = false := rfl
theorem J4q (pins : List Nat) (l : List AV) : Jp1 pins (.agg l) = false := rfl
theorem J6m (pins : List Nat) (k : IntKind) (n : Int) : Jp1 pins (.int k n) = false := rfl
theorem Jzx (pins : List Nat) (b : Bool) : Jp1 pins (.bool b) = false := rfl
theorem Jyd (pins : List Nat) : Jp1 pins .nils = false := rfl
theorem J4s (pins : List Nat) (a b c d : Nat) : Jp1 pins (.arr a b c d) = false := rfl
theorem ptrIn_F {α : Type} (e : α → List AV) (pins : List Nat) (x : FS α) : Jp1 pins (encF e x) = false := by cases x <;> rfl
theorem J5o : snap h depth (.tup []) = some (.tup [], []) := rfl
theorem Q6 (vs : List AV) : Jcc call f h vs = Jza call f h vs.length (mkTb h true (fr (Jg1 0 vs)) (rng 0 vs.length) []) (Jq7 h (fr (Jg1 0 vs)) (rng 0 vs.length) (mkTb h true (fr (Jg1 0 vs)) (rng 0 vs.length) [])) := rfl
theorem J0c (n : Nat) (tb : List Win) (τ : St) : Jza call f h n tb (some τ) = Jwm f (Jh3 0 (evN τ.f 0 n)) h tb (call f (evN τ.f 0 n) (some (τ.h, 0))) := rfl
theorem rng_0 (k : Nat) : rng k 0 = [] := rfl
theorem rng_s (k n : Nat) : rng k (n + 1) = k :: rng (k + 1) n := rfl
theorem evN_0 (F : Nat → AV) (k : Nat) : evN F k 0 = [] := rfl
theorem evN_s (F : Nat → AV) (k n : Nat) : evN F k (n + 1) = F k :: evN F (k + 1) n := rfl
theorem Jyp (k : Nat) : Jh3 k [] = [] := rfl
theorem Jvu (k : Nat) (v : AV) (r : List AV) : Jh3 k (v :: r) = Jmm k v ++ Jh3 (k + 1) r := rfl
theorem J5e (k g v o : Nat) : Jmm k (.ptr g v o) = if g = k then [k] else [] := rfl
theorem J9d (k g v o n : Nat) : Jmm k (.arr g v o n) = if g = k then [k] else [] := rfl
theorem J6x (k g v : Nat) : Jmm k (.map g v) = if g = k then [k] else [] := rfl
theorem J70 (k : Nat) (q : IntKind) (n : Int) : Jmm k (.int q n) = [] := rfl
theorem Jzp (k : Nat) (b : Bool) : Jmm k (.bool b) = [] := rfl
theorem J4a (k : Nat) (b : ByteArray) : Jmm k (.str b) = [] := rfl
theorem J6w (k : Nat) (l : List AV) : Jmm k (.agg l) = [] := rfl
theorem J0p (k : Nat) : Jmm k .nils = [] := rfl
theorem refNo_fn (k : Nat) (g : FuncId) (l : List AV) : Jmm k (.fn g l) = [] := rfl
theorem Jyi (k : Nat) (l : List AV) : Jmm k (.rptr l) = [] := rfl
theorem refNo_F {α : Type} (e : α → List AV) (k : Nat) (x : FS α) : Jmm k (encF e x) = [] := by cases x <;> rfl
theorem refNo_MP {K V : Type} (ek : K → AV) (ev : V → AV) (k : Nat) (es : List (K × V)) : Jmm k (Jmv ek ev es) = [] := rfl
theorem Jy3 (pn : List Nat) (tb : List Win) (v : AV) : Jwm f pn h tb (some (v, h1)) = backR h h1 v (embR h h1 f v (embH pn h h1 tb)) := rfl
theorem J7r (v : AV) (E : List Win) : embR h h1 f v (some E) = embW h h1 f E v := rfl
theorem embW_tup (E : List Win) (l : List AV) : embW h h1 f E (.tup l) = embC h h1 (700000 + f) 0 l E := rfl
theorem embW_arr (E : List Win) (a b c d : Nat) : embW h h1 f E (.arr a b c d) = embV h h1 (700000 + f) 0 E (.arr a b c d) := rfl
theorem embW_int (E : List Win) (k : IntKind) (n : Int) : embW h h1 f E (.int k n) = some E := rfl
theorem J44 (E : List Win) (b : Bool) : embW h h1 f E (.bool b) = some E := rfl
theorem embW_str (E : List Win) (b : ByteArray) : embW h h1 f E (.str b) = some E := rfl
theorem J35 (E : List Win) : embW h h1 f E .nils = some E := rfl
theorem J2z (E : List Win) : embW h h1 f E .nilp = some E := rfl
theorem J31 (E : List Win) : embW h h1 f E .nilf = some E := rfl
theorem J3c (E : List Win) : embW h h1 f E .nilm = some E := rfl
theorem embW_lst (E : List Win) (n : Nat) (l : List AV) : embW h h1 f E (.lst n l) = some E := rfl
theorem J0r (E : List Win) (l : List AV) : embW h h1 f E (.rptr l) = some E := rfl
theorem embW_fn (E : List Win) (g : FuncId) (l : List AV) : embW h h1 f E (.fn g l) = some E := rfl
theorem embW_agg (E : List Win) (l : List AV) : embW h h1 f E (.agg l) = some E := rfl
theorem embW_ptr (E : List Win) (a b c : Nat) : embW h h1 f E (.ptr a b c) = some E := rfl
theorem embW_mpr (E : List Win) (a b : List AV) : embW h h1 f E (.mpr a b) = some E := rfl
theorem embW_F {α : Type} (e : α → List AV) (E : List Win) (x : FS α) : embW h h1 f E (encF e x) = some E := by cases x <;> rfl
theorem embW_MP {K V : Type} (ek : K → AV) (ev : V → AV) (E : List Win) (es : List (K × V)) : embW h h1 f E (Jmv ek ev es) = some E := rfl
theorem Jtx (pins : List Nat) (rs : List RV) (vs : List AV) : Jla pins h rs (some vs) = finO pins h (Jm4 h rs vs) := rfl
theorem J63 : Jm4 h [] [] = some ([], []) := rfl
theorem Jz1 (r : RV) (rs : List RV) (v : AV) (vs : List AV) : Jm4 h (r :: rs) (v :: vs) = outC (outV h r v) (Jm4 h rs vs) := rfl
theorem outV_own (t : Nat) (v : AV) : outV h (.own t) v = some (v, []) := rfl
theorem outV_tmp (t : Nat) (v : AV) : outV h (.tmp t) v = snap h depth v := rfl
theorem J05 (t : Nat) (a : Bool) (n : Nat) (v : AV) : outV h (.cell t a n) v = snap h depth v := rfl
theorem J1q (u : AV) (ns : List Nat) (us : List AV) (ms : List Nat) : outC (some (u, ns)) (some (us, ms)) = some (u :: us, ns ++ ms) := rfl
theorem J2y (pins : List Nat) (us : List AV) (ns : List Nat) : finO pins h (some (us, ns)) = endO us.length (norm pins (rng resB us.length) ⟨fr (Jg1 resB us), Kg h ns⟩) := rfl
theorem J3w (n : Nat) (τ : St) : endO n (some τ) = some (Jq4 (evN τ.f resB n), τ.h) := rfl
theorem J3t (v : AV) : Jq4 [v] = v := rfl
theorem J6u (a b : AV) (l : List AV) : Jq4 (a :: b :: l) = .tup (a :: b :: l) := rfl
theorem J32 (t : Nat) : RV.isOwn (.own t) = true := rfl
theorem J4p (t : Nat) : RV.isOwn (.tmp t) = false := rfl
theorem Jzh (t : Nat) (a : Bool) (n : Nat) : RV.isOwn (.cell t a n) = false := rfl
theorem resB_eq : resB = 700000 := rfl
def embHK (h h1 : Heap) (tb : List Win) : Option (List Win) → Option (List Win)
 | some E => embB h h1 tb E
 | none => none
theorem embH_eq (pn : List Nat) (tb : List Win) : embH pn h h1 tb = embHK h h1 tb (embT pn h h1 tb) := by
 unfold embH embHK
 cases embT pn h h1 tb <;> rfl
theorem J0e (tb E : List Win) : embHK h h1 tb (some E) = embB h h1 tb E := rfl
def embTK : Option (List Win) → Option (List Win) → Option (List Win)
 | some l, some m => some (l ++ m)
 | _, _ => none
theorem embT_nil (pn : List Nat) : embT pn h h1 [] = some [] := rfl
theorem J8a (pn : List Nat) (w : Win) (r : List Win) : embT pn h h1 (w :: r) = embTK (embO pn w (h w.g) (h1 w.nn)) (embT pn h h1 r) := by
 simp only [embT]
 cases embO pn w (h w.g) (h1 w.nn) <;> cases embT pn h h1 r <;> rfl
theorem Jzu (l m : List Win) : embTK (some l) (some m) = some (l ++ m) := rfl
theorem embO_box (pn : List Nat) (w : Win) (v : Nat) (c c' : List AV) : embO pn w (some (.box v c)) (some (.box 0 c')) = if pn.contains w.nn = true then some [⟨w.nn, w.g, v, 0, 0⟩] else none := rfl
theorem embO_map (pn : List Nat) (w : Win) (v : Nat) (c c' : List (AV × AV)) : embO pn w (some (.map v c false)) (some (.map 0 c' false)) = if pn.contains w.nn = true then some [⟨w.nn, w.g, v, 0, 0⟩] else none := rfl
theorem embO_arr (pn : List Nat) (w : Win) (v e e' : Nat) (t t' : TypeId) (c c' : List AV) (z z' : Bool) : embO pn w (some (.arr v e t c z)) (some (.arr 0 e' t' c' z')) =
  if pn.contains w.nn = true then (if e = e' ∧ t = t' ∧ w.off = 0 ∧ c'.length = c.length then some [⟨w.nn, w.g, v, 0, c'.length / e'⟩] else none)
  else if z = false ∧ z' = false then some [⟨w.nn, w.g, v + 1, 0, c'.length / e'⟩] else none := rfl
def embBK (h h1 : Heap) (r : List Win) : Option (List Win) → Option (List Win)
 | some E => embB h h1 r E
 | none => none
theorem embB_nil (E : List Win) : embB h h1 [] E = some E := rfl
theorem J4n (w : Win) (r E : List Win) : embB h h1 (w :: r) E = embBK h h1 r (embX h h1 w.g E (h1 w.nn)) := by
 simp only [embB]
 cases embX h h1 w.g E (h1 w.nn) <;> rfl
theorem Jy9 (r E : List Win) : embBK h h1 r (some E) = embB h h1 r E := rfl
theorem embX_box (g v : Nat) (E : List Win) (c : List AV) : embX h h1 g E (some (.box v c)) = if c.all AV.flat = true then some E else embC h h1 g 0 c E := rfl
theorem embX_arr (g v e : Nat) (t : TypeId) (E : List Win) (c : List AV) (z : Bool) : embX h h1 g E (some (.arr v e t c z)) = some E := rfl
theorem embX_map (g v : Nat) (E : List Win) (c : List (AV × AV)) (z : Bool) : embX h h1 g E (some (.map v c z)) = some E := rfl
def embCK (h h1 : Heap) (g j : Nat) (r : List AV) : Option (List Win) → Option (List Win)
 | some E => embC h h1 g (j + 1) r E
 | none => none
theorem embC_nil (g j : Nat) (E : List Win) : embC h h1 g j [] E = some E := rfl
theorem J28 (g j : Nat) (v : AV) (r : List AV) (E : List Win) : embC h h1 g j (v :: r) E = embCK h h1 g j r (embV h h1 g j E v) := by
 simp only [embC]
 cases embV h h1 g j E v <;> rfl
theorem J0o (g j : Nat) (r : List AV) (E : List Win) : embCK h h1 g j r (some E) = embC h h1 g (j + 1) r E := rfl
theorem embV_arr (g j n len : Nat) (E : List Win) : embV h h1 g j E (.arr n 0 0 len) = embA h g j E n len (h1 n) := rfl
theorem embV_int (g j : Nat) (E : List Win) (k : IntKind) (n : Int) : embV h h1 g j E (.int k n) = some E := rfl
theorem J41 (g j : Nat) (E : List Win) (b : Bool) : embV h h1 g j E (.bool b) = some E := rfl
theorem J54 (g j : Nat) (E : List Win) : embV h h1 g j E .nils = some E := rfl
theorem embV_str (g j : Nat) (E : List Win) (b : ByteArray) : embV h h1 g j E (.str b) = some E := rfl
theorem J68 (g j : Nat) (E : List Win)  : embV h h1 g j E .nilp = some E := rfl
theorem J2b (g j : Nat) (E : List Win)  : embV h h1 g j E .nilf = some E := rfl
theorem J7o (g j : Nat) (E : List Win)  : embV h h1 g j E .nilm = some E := rfl
theorem embV_lst (g j : Nat) (E : List Win) (n : Nat) (l : List AV) : embV h h1 g j E (.lst n l) = some E := rfl
theorem J7m (g j : Nat) (E : List Win) (l : List AV) : embV h h1 g j E (.rptr l) = some E := rfl
theorem embV_fn (g j : Nat) (E : List Win) (q : FuncId) (l : List AV) : embV h h1 g j E (.fn q l) = some E := rfl
theorem embV_agg (g j : Nat) (E : List Win) (l : List AV) : embV h h1 g j E (.agg l) = some E := rfl
theorem embV_ptr (g j : Nat) (E : List Win) (a b c : Nat) : embV h h1 g j E (.ptr a b c) = some E := rfl
theorem embV_mpr (g j : Nat) (E : List Win) (a b : List AV) : embV h h1 g j E (.mpr a b) = some E := rfl
theorem embV_MP {K V : Type} (ek : K → AV) (ev : V → AV) (g j : Nat) (E : List Win) (es : List (K × V)) : embV h h1 g j E (Jmv ek ev es) = some E := rfl
theorem embV_F {α : Type} (e : α → List AV) (g j : Nat) (E : List Win) (x : FS α) : embV h h1 g j E (encF e x) = some E := by cases x <;> rfl
theorem embA_arr (g j e n len : Nat) (t : TypeId) (E : List Win) (c : List AV) : embA h g j E n len (some (.arr 0 e t c false)) = if Jgg E n = none then some (E ++ [⟨n, Jp0 g j, Kj h (Jp0 g j), 0, len⟩]) else some E := rfl
theorem J0j (v : AV) (E : List Win) : backR h h1 v (some E) = if nnB E [] = true then some (ren h1 E v, updR h1 E E h) else none := rfl
theorem updR_nil (E : List Win) : updR h1 E [] h = h := rfl
theorem J2i (E : List Win) (w : Win) (r : List Win) : updR h1 E (w :: r) h = upd (updR h1 E r h) w.nn (renM h1 E w (h1 w.g)) := rfl
theorem calW_fn (l : List AV) (g : FuncId) (caps : List AV) : calW call h l (.fn g caps) = Jcc call g h (l ++ caps) := rfl
theorem Jyq (off g : Nat) (ps : List (AV × List Nat)) : Jyf off g (some ps) = some (.rptr ((ps.map (·.1)).drop off), g :: ps.flatMap (·.2)) := rfl
end
theorem len_of {α β : Type} {x : FS α} {y : FS β} (h : ieq (flen x) (flen y) = true) : y.l.length = x.l.length := by
 have : flen x = flen y := by simpa [ieq] using h
 unfold flen at this
 omega
section
variable {α : Type} {w : Nat} {e : α → List AV} [hE : EncOK w e]
end
attribute [simp ↓] J7s J4f Jzk
attribute [simp] Jyq Jyw J61 pin1_box pin1_arr pin1_map J16 J5l J79 J1d J74 J4q J6m Jzx Jyd J4s ptrIn_F J5o
 Q6 J0c rng_0 rng_s evN_0 evN_s Jyp Jvu J5e J9d J6x J70 Jzp J4a J6w J0p refNo_fn Jyi refNo_F refNo_MP
 Jy3 embV_str J68 J2b J7o embV_lst J7m embV_fn embV_agg embV_ptr embV_mpr embV_MP J7r embW_tup embW_arr embW_int J44 embW_str J35 J2z J31 J3c embW_lst J0r embW_fn embW_agg embW_ptr embW_mpr embW_F embW_MP Jtx J63 Jz1 outV_own outV_tmp J05 J1q J2y J3w J3t J6u J32 J4p Jzh resB_eq embH_eq J0e embT_nil J8a Jzu embO_box embO_map embO_arr embB_nil J4n Jy9 embX_box embX_arr embX_map embC_nil J28 J0o embV_arr embV_int J41 J54 embV_F embA_arr J0j updR_nil J2i calW_fn Jg1 Jp0
end Go.Vv
