/- Rules for calls that share boxes and rows, as equations for rewriting. Conditions: none. -/
import Derived.Test.YtemehoioeoohmaaVs
namespace Go.Vv
open Go
set_option linter.unusedSectionVars false
section
variable (h h1 : Heap) (call : Call) (f : FuncId)
def normK (h : Heap) (F : Nat → AV) (ks : List Nat) : Option (List Win) → Option St
 | some tb => Joi h F ks (mkTb h false F ks tb)
 | none => none
theorem J0u (p : Nat) (ps ks : List Nat) (F : Nat → AV) : norm (p :: ps) ks ⟨F, h⟩ = normK h F ks (Jn6 h (p :: ps) []) := by
 unfold norm normK
 cases Jn6 h (p :: ps) [] <;> rfl
theorem Jv9 (F : Nat → AV) (ks : List Nat) (tb : List Win) : normK h F ks (some tb) = Joi h F ks (mkTb h false F ks tb) := rfl
def pinK (h : Heap) (r : List Nat) : Option (List Win) → Option (List Win)
 | some tb => Jn6 h r tb
 | none => none
theorem J37 (tb : List Win) : Jn6 h [] tb = some tb := rfl
theorem Jwm (i : Nat) (r : List Nat) (tb : List Win) : Jn6 h (i :: r) tb = pinK h r (pin1 h i tb (h i)) := by
 unfold Jn6 pinK
 cases pin1 h i tb (h i) <;> rfl
theorem J36 (r : List Nat) (tb : List Win) : pinK h r (some tb) = Jn6 h r tb := rfl
theorem pin1_box (i : Nat) (tb : List Win) (c : List AV) : pin1 h i tb (some (.box 0 c)) = if Jei tb i = none then some (addB h tb i i c) else none := rfl
theorem pin1_arr (i e : Nat) (el : TypeId) (tb : List Win) (c : List AV) (z : Bool) : pin1 h i tb (some (.arr 0 e el c z)) = if Jei tb i = none then some (tb ++ [⟨i, i, 0, 0, c.length / e⟩]) else none := rfl
theorem pin1_map (i : Nat) (tb : List Win) (es : List (AV × AV)) (z : Bool) : pin1 h i tb (some (.map 0 es z)) = if Jei tb i = none then some (tb ++ [⟨i, i, 0, 0, 0⟩]) else none := rfl
theorem J4y (pins : List Nat) (v : AV) : Ji7 pins h (some v) = if Jmx pins v = true then endR v (norm pins [] ⟨fun _ => .any, h⟩) else endS pins h (snap h depth v) := rfl
theorem Jy6 (pins : List Nat) (u : AV) (ns : List Nat) : endS pins h (some (u, ns)) = endR u (norm pins [] ⟨fun _ => .any, Kh h ns⟩) := rfl
theorem J6d (v : AV) (τ : St) : endR v (some τ) = some (v, τ.h) := rfl
theorem Jys (pins : List Nat) (g o : Nat) : Jmx pins (.ptr g 0 o) = pins.contains g := rfl
theorem Jz6 (pins : List Nat) (l : List AV) : Jmx pins (.tup l) = false := rfl
theorem J57 (pins : List Nat) (l : List AV) : Jmx pins (.agg l) = false := rfl
theorem J0s (pins : List Nat) (k : IntKind) (n : Int) : Jmx pins (.int k n) = false := rfl
theorem Jwy (pins : List Nat) (b : Bool) : Jmx pins (.bool b) = false := rfl
theorem Jxb (pins : List Nat) : Jmx pins .nils = false := rfl
theorem Jyn (pins : List Nat) (a b c d : Nat) : Jmx pins (.arr a b c d) = false := rfl
theorem ptrIn_F {α : Type} (e : α → List AV) (pins : List Nat) (x : FS α) : Jmx pins (encF e x) = false := by cases x <;> rfl
theorem Jzb : snap h depth (.tup []) = some (.tup [], []) := rfl
theorem Qr (vs : List AV) : Jak call f h vs = Jv0 call f h vs.length (mkTb h true (fr (Jey 0 vs)) (rng 0 vs.length) []) (Joi h (fr (Jey 0 vs)) (rng 0 vs.length) (mkTb h true (fr (Jey 0 vs)) (rng 0 vs.length) [])) := rfl
theorem Jvq (n : Nat) (tb : List Win) (τ : St) : Jv0 call f h n tb (some τ) = Jsh f (Jfo 0 (evN τ.f 0 n)) h tb (call f (evN τ.f 0 n) (some (τ.h, 0))) := rfl
theorem rng_0 (k : Nat) : rng k 0 = [] := rfl
theorem rng_s (k n : Nat) : rng k (n + 1) = k :: rng (k + 1) n := rfl
theorem evN_0 (F : Nat → AV) (k : Nat) : evN F k 0 = [] := rfl
theorem evN_s (F : Nat → AV) (k n : Nat) : evN F k (n + 1) = F k :: evN F (k + 1) n := rfl
theorem Jwz (k : Nat) : Jfo k [] = [] := rfl
theorem Jtj (k : Nat) (v : AV) (r : List AV) : Jfo k (v :: r) = Jj7 k v ++ Jfo (k + 1) r := rfl
theorem J1p (k g v o : Nat) : Jj7 k (.ptr g v o) = if g = k then [k] else [] := rfl
theorem Jyj (k g v o n : Nat) : Jj7 k (.arr g v o n) = if g = k then [k] else [] := rfl
theorem J1q (k g v : Nat) : Jj7 k (.map g v) = if g = k then [k] else [] := rfl
theorem J2b (k : Nat) (q : IntKind) (n : Int) : Jj7 k (.int q n) = [] := rfl
theorem Jvu (k : Nat) (b : Bool) : Jj7 k (.bool b) = [] := rfl
theorem J5f (k : Nat) (b : ByteArray) : Jj7 k (.str b) = [] := rfl
theorem Jz1 (k : Nat) (l : List AV) : Jj7 k (.agg l) = [] := rfl
theorem Jvg (k : Nat) : Jj7 k .nils = [] := rfl
theorem refNo_fn (k : Nat) (g : FuncId) (l : List AV) : Jj7 k (.fn g l) = [] := rfl
theorem Jvp (k : Nat) (l : List AV) : Jj7 k (.rptr l) = [] := rfl
theorem refNo_F {α : Type} (e : α → List AV) (k : Nat) (x : FS α) : Jj7 k (encF e x) = [] := by cases x <;> rfl
theorem refNo_MP {K V : Type} (ek : K → AV) (ev : V → AV) (k : Nat) (es : List (K × V)) : Jj7 k (Jj3 ek ev es) = [] := rfl
theorem Jwq (pn : List Nat) (tb : List Win) (v : AV) : Jsh f pn h tb (some (v, h1)) = backR h h1 v (embR h h1 f v (embH pn h h1 tb)) := rfl
theorem Jzk (v : AV) (E : List Win) : embR h h1 f v (some E) = embW h h1 f E v := rfl
theorem embW_tup (E : List Win) (l : List AV) : embW h h1 f E (.tup l) = embC h h1 (700000 + f) 0 l E := rfl
theorem embW_arr (E : List Win) (a b c d : Nat) : embW h h1 f E (.arr a b c d) = embV h h1 (700000 + f) 0 E (.arr a b c d) := rfl
theorem embW_int (E : List Win) (k : IntKind) (n : Int) : embW h h1 f E (.int k n) = some E := rfl
theorem J5m (E : List Win) (b : Bool) : embW h h1 f E (.bool b) = some E := rfl
theorem embW_str (E : List Win) (b : ByteArray) : embW h h1 f E (.str b) = some E := rfl
theorem J5b (E : List Win) : embW h h1 f E .nils = some E := rfl
theorem J55 (E : List Win) : embW h h1 f E .nilp = some E := rfl
theorem Jy7 (E : List Win) : embW h h1 f E .nilf = some E := rfl
theorem J5h (E : List Win) : embW h h1 f E .nilm = some E := rfl
theorem embW_lst (E : List Win) (n : Nat) (l : List AV) : embW h h1 f E (.lst n l) = some E := rfl
theorem Jxs (E : List Win) (l : List AV) : embW h h1 f E (.rptr l) = some E := rfl
theorem embW_fn (E : List Win) (g : FuncId) (l : List AV) : embW h h1 f E (.fn g l) = some E := rfl
theorem embW_agg (E : List Win) (l : List AV) : embW h h1 f E (.agg l) = some E := rfl
theorem embW_ptr (E : List Win) (a b c : Nat) : embW h h1 f E (.ptr a b c) = some E := rfl
theorem embW_mpr (E : List Win) (a b : List AV) : embW h h1 f E (.mpr a b) = some E := rfl
theorem embW_F {α : Type} (e : α → List AV) (E : List Win) (x : FS α) : embW h h1 f E (encF e x) = some E := by cases x <;> rfl
theorem embW_MP {K V : Type} (ek : K → AV) (ev : V → AV) (E : List Win) (es : List (K × V)) : embW h h1 f E (Jj3 ek ev es) = some E := rfl
theorem Jro (pins : List Nat) (rs : List RV) (vs : List AV) : Jiq pins h rs (some vs) = finO pins h (Jk6 h rs vs) := rfl
theorem J1v : Jk6 h [] [] = some ([], []) := rfl
theorem Jw8 (r : RV) (rs : List RV) (v : AV) (vs : List AV) : Jk6 h (r :: rs) (v :: vs) = outC (outV h r v) (Jk6 h rs vs) := rfl
theorem outV_own (t : Nat) (v : AV) : outV h (.own t) v = some (v, []) := rfl
theorem outV_tmp (t : Nat) (v : AV) : outV h (.tmp t) v = snap h depth v := rfl
theorem J5s (t : Nat) (a : Bool) (n : Nat) (v : AV) : outV h (.cell t a n) v = snap h depth v := rfl
theorem Jxw (u : AV) (ns : List Nat) (us : List AV) (ms : List Nat) : outC (some (u, ns)) (some (us, ms)) = some (u :: us, ns ++ ms) := rfl
theorem J3c (pins : List Nat) (us : List AV) (ns : List Nat) : finO pins h (some (us, ns)) = endO us.length (norm pins (rng resB us.length) ⟨fr (Jey resB us), Kh h ns⟩) := rfl
theorem Jyt (n : Nat) (τ : St) : endO n (some τ) = some (Jod (evN τ.f resB n), τ.h) := rfl
theorem J2u (v : AV) : Jod [v] = v := rfl
theorem Jxp (a b : AV) (l : List AV) : Jod (a :: b :: l) = .tup (a :: b :: l) := rfl
theorem J0o (t : Nat) : RV.isOwn (.own t) = true := rfl
theorem J3r (t : Nat) : RV.isOwn (.tmp t) = false := rfl
theorem Jww (t : Nat) (a : Bool) (n : Nat) : RV.isOwn (.cell t a n) = false := rfl
theorem resB_eq : resB = 700000 := rfl
def embHK (h h1 : Heap) (tb : List Win) : Option (List Win) → Option (List Win)
 | some E => embB h h1 tb E
 | none => none
theorem embH_eq (pn : List Nat) (tb : List Win) : embH pn h h1 tb = embHK h h1 tb (embT pn h h1 tb) := by
 unfold embH embHK
 cases embT pn h h1 tb <;> rfl
theorem Jwa (tb E : List Win) : embHK h h1 tb (some E) = embB h h1 tb E := rfl
def embTK : Option (List Win) → Option (List Win) → Option (List Win)
 | some l, some m => some (l ++ m)
 | _, _ => none
theorem embT_nil (pn : List Nat) : embT pn h h1 [] = some [] := rfl
theorem J0j (pn : List Nat) (w : Win) (r : List Win) : embT pn h h1 (w :: r) = embTK (embO pn w (h w.g) (h1 w.nn)) (embT pn h h1 r) := by
 simp only [embT]
 cases embO pn w (h w.g) (h1 w.nn) <;> cases embT pn h h1 r <;> rfl
theorem Jv1 (l m : List Win) : embTK (some l) (some m) = some (l ++ m) := rfl
theorem embO_box (pn : List Nat) (w : Win) (v : Nat) (c c' : List AV) : embO pn w (some (.box v c)) (some (.box 0 c')) = if pn.contains w.nn = true then some [⟨w.nn, w.g, v, 0, 0⟩] else none := rfl
theorem embO_map (pn : List Nat) (w : Win) (v : Nat) (c c' : List (AV × AV)) : embO pn w (some (.map v c false)) (some (.map 0 c' false)) = if pn.contains w.nn = true then some [⟨w.nn, w.g, v, 0, 0⟩] else none := rfl
theorem embO_arr (pn : List Nat) (w : Win) (v e e' : Nat) (t t' : TypeId) (c c' : List AV) (z z' : Bool) : embO pn w (some (.arr v e t c z)) (some (.arr 0 e' t' c' z')) =
  if pn.contains w.nn = true then (if e = e' ∧ t = t' ∧ w.off = 0 ∧ c'.length = c.length then some [⟨w.nn, w.g, v, 0, c'.length / e'⟩] else none)
  else if z = false ∧ z' = false then some [⟨w.nn, w.g, v + 1, 0, c'.length / e'⟩] else none := rfl
def embBK (h h1 : Heap) (r : List Win) : Option (List Win) → Option (List Win)
 | some E => embB h h1 r E
 | none => none
theorem embB_nil (E : List Win) : embB h h1 [] E = some E := rfl
theorem J2t (w : Win) (r E : List Win) : embB h h1 (w :: r) E = embBK h h1 r (embX h h1 w.g E (h1 w.nn)) := by
 simp only [embB]
 cases embX h h1 w.g E (h1 w.nn) <;> rfl
theorem Jxj (r E : List Win) : embBK h h1 r (some E) = embB h h1 r E := rfl
theorem embX_box (g v : Nat) (E : List Win) (c : List AV) : embX h h1 g E (some (.box v c)) = if c.all AV.flat = true then some E else embC h h1 g 0 c E := rfl
theorem embX_arr (g v e : Nat) (t : TypeId) (E : List Win) (c : List AV) (z : Bool) : embX h h1 g E (some (.arr v e t c z)) = some E := rfl
theorem embX_map (g v : Nat) (E : List Win) (c : List (AV × AV)) (z : Bool) : embX h h1 g E (some (.map v c z)) = some E := rfl
def embCK (h h1 : Heap) (g j : Nat) (r : List AV) : Option (List Win) → Option (List Win)
 | some E => embC h h1 g (j + 1) r E
 | none => none
theorem embC_nil (g j : Nat) (E : List Win) : embC h h1 g j [] E = some E := rfl
theorem Jyx (g j : Nat) (v : AV) (r : List AV) (E : List Win) : embC h h1 g j (v :: r) E = embCK h h1 g j r (embV h h1 g j E v) := by
 simp only [embC]
 cases embV h h1 g j E v <;> rfl
theorem Jvd (g j : Nat) (r : List AV) (E : List Win) : embCK h h1 g j r (some E) = embC h h1 g (j + 1) r E := rfl
theorem embV_arr (g j n len : Nat) (E : List Win) : embV h h1 g j E (.arr n 0 0 len) = embA h g j E n len (h1 n) := rfl
theorem embV_int (g j : Nat) (E : List Win) (k : IntKind) (n : Int) : embV h h1 g j E (.int k n) = some E := rfl
theorem Jyr (g j : Nat) (E : List Win) (b : Bool) : embV h h1 g j E (.bool b) = some E := rfl
theorem J0p (g j : Nat) (E : List Win) : embV h h1 g j E .nils = some E := rfl
theorem embV_str (g j : Nat) (E : List Win) (b : ByteArray) : embV h h1 g j E (.str b) = some E := rfl
theorem J1x (g j : Nat) (E : List Win)  : embV h h1 g j E .nilp = some E := rfl
theorem J2s (g j : Nat) (E : List Win)  : embV h h1 g j E .nilf = some E := rfl
theorem J3y (g j : Nat) (E : List Win)  : embV h h1 g j E .nilm = some E := rfl
theorem embV_lst (g j : Nat) (E : List Win) (n : Nat) (l : List AV) : embV h h1 g j E (.lst n l) = some E := rfl
theorem J28 (g j : Nat) (E : List Win) (l : List AV) : embV h h1 g j E (.rptr l) = some E := rfl
theorem embV_fn (g j : Nat) (E : List Win) (q : FuncId) (l : List AV) : embV h h1 g j E (.fn q l) = some E := rfl
theorem embV_agg (g j : Nat) (E : List Win) (l : List AV) : embV h h1 g j E (.agg l) = some E := rfl
theorem embV_ptr (g j : Nat) (E : List Win) (a b c : Nat) : embV h h1 g j E (.ptr a b c) = some E := rfl
theorem embV_mpr (g j : Nat) (E : List Win) (a b : List AV) : embV h h1 g j E (.mpr a b) = some E := rfl
theorem embV_MP {K V : Type} (ek : K → AV) (ev : V → AV) (g j : Nat) (E : List Win) (es : List (K × V)) : embV h h1 g j E (Jj3 ek ev es) = some E := rfl
theorem embV_F {α : Type} (e : α → List AV) (g j : Nat) (E : List Win) (x : FS α) : embV h h1 g j E (encF e x) = some E := by cases x <;> rfl
theorem embA_arr (g j e n len : Nat) (t : TypeId) (E : List Win) (c : List AV) : embA h g j E n len (some (.arr 0 e t c false)) = if Jei E n = none then some (E ++ [⟨n, Jn0 g j, Kq h (Jn0 g j), 0, len⟩]) else some E := rfl
theorem Jvv (v : AV) (E : List Win) : backR h h1 v (some E) = if nnB E [] = true then some (ren h1 E v, updR h1 E E h) else none := rfl
theorem updR_nil (E : List Win) : updR h1 E [] h = h := rfl
theorem J01 (E : List Win) (w : Win) (r : List Win) : updR h1 E (w :: r) h = upd (updR h1 E r h) w.nn (renM h1 E w (h1 w.g)) := rfl
theorem calW_fn (l : List AV) (g : FuncId) (caps : List AV) : calW call h l (.fn g caps) = Jak call g h (l ++ caps) := rfl
theorem Jxi (off g : Nat) (ps : List (AV × List Nat)) : Jwk off g (some ps) = some (.rptr ((ps.map (·.1)).drop off), g :: ps.flatMap (·.2)) := rfl
end
theorem len_of {α β : Type} {x : FS α} {y : FS β} (h : ieq (flen x) (flen y) = true) : y.l.length = x.l.length := by
 have : flen x = flen y := by simpa [ieq] using h
 unfold flen at this
 omega
section
variable {α : Type} {w : Nat} {e : α → List AV} [hE : EncOK w e]
end
attribute [simp ↓] J0u J37 Jwm
attribute [simp] Jxi Jv9 J36 pin1_box pin1_arr pin1_map J4y Jy6 J6d Jys Jz6 J57 J0s Jwy Jxb Jyn ptrIn_F Jzb
 Qr Jvq rng_0 rng_s evN_0 evN_s Jwz Jtj J1p Jyj J1q J2b Jvu J5f Jz1 Jvg refNo_fn Jvp refNo_F refNo_MP
 Jwq embV_str J1x J2s J3y embV_lst J28 embV_fn embV_agg embV_ptr embV_mpr embV_MP Jzk embW_tup embW_arr embW_int J5m embW_str J5b J55 Jy7 J5h embW_lst Jxs embW_fn embW_agg embW_ptr embW_mpr embW_F embW_MP Jro J1v Jw8 outV_own outV_tmp J5s Jxw J3c Jyt J2u Jxp J0o J3r Jww resB_eq embH_eq Jwa embT_nil J0j Jv1 embO_box embO_map embO_arr embB_nil J2t Jxj embX_box embX_arr embX_map embC_nil Jyx Jvd embV_arr embV_int Jyr J0p embV_F embA_arr Jvv updR_nil J01 calW_fn Jey Jn0
end Go.Vv
