/- Rules for calls that share boxes and rows, as equations for rewriting. Conditions: none. -/
import Derived.Test.YtemehoioeoohmaaVs
namespace Go.Vv
open Go
set_option linter.unusedSectionVars false
section
variable (h h1 : Heap) (call : Call) (f : FuncId)
def normK (h : Heap) (F : Nat → AV) (ks : List Nat) : Option (List Win) → Option St
  | some tb => Jln h F ks (mkTb h false F ks tb)
  | none => none
theorem Jzd (p : Nat) (ps ks : List Nat) (F : Nat → AV) : norm (p :: ps) ks ⟨F, h⟩ = normK h F ks (Jj2 h (p :: ps) []) := by
  unfold norm normK
  cases Jj2 h (p :: ps) [] <;> rfl
theorem Jte (F : Nat → AV) (ks : List Nat) (tb : List Win) : normK h F ks (some tb) = Jln h F ks (mkTb h false F ks tb) := rfl
def pinK (h : Heap) (r : List Nat) : Option (List Win) → Option (List Win)
  | some tb => Jj2 h r tb
  | none => none
theorem Jue (tb : List Win) : Jj2 h [] tb = some tb := rfl
theorem Jsn (i : Nat) (r : List Nat) (tb : List Win) : Jj2 h (i :: r) tb = pinK h r (pin1 h i tb (h i)) := by
  unfold Jj2 pinK
  cases pin1 h i tb (h i) <;> rfl
theorem Jyq (r : List Nat) (tb : List Win) : pinK h r (some tb) = Jj2 h r tb := rfl
theorem pin1_box (i : Nat) (tb : List Win) (c : List AV) : pin1 h i tb (some (.box 0 c)) = if Jby tb i = none then some (addB h tb i i c) else none := rfl
theorem pin1_arr (i e : Nat) (el : TypeId) (tb : List Win) (c : List AV) (z : Bool) : pin1 h i tb (some (.arr 0 e el c z)) = if Jby tb i = none then some (tb ++ [⟨i, i, 0, 0, c.length / e⟩]) else none := rfl
theorem pin1_map (i : Nat) (tb : List Win) (es : List (AV × AV)) (z : Bool) : pin1 h i tb (some (.map 0 es z)) = if Jby tb i = none then some (tb ++ [⟨i, i, 0, 0, 0⟩]) else none := rfl
theorem Jx4 (pins : List Nat) (v : AV) : Jfs pins h (some v) = if Jjn pins v = true then endR v (norm pins [] ⟨fun _ => .any, h⟩) else endS pins h (snap h depth v) := rfl
theorem Jt3 (pins : List Nat) (u : AV) (ns : List Nat) : endS pins h (some (u, ns)) = endR u (norm pins [] ⟨fun _ => .any, Kf h ns⟩) := rfl
theorem Jxg (v : AV) (τ : St) : endR v (some τ) = some (v, τ.h) := rfl
theorem Jvp (pins : List Nat) (g o : Nat) : Jjn pins (.ptr g 0 o) = pins.contains g := rfl
theorem Jya (pins : List Nat) (l : List AV) : Jjn pins (.tup l) = false := rfl
theorem Jvu (pins : List Nat) (l : List AV) : Jjn pins (.agg l) = false := rfl
theorem Jye (pins : List Nat) (k : IntKind) (n : Int) : Jjn pins (.int k n) = false := rfl
theorem Jst (pins : List Nat) (b : Bool) : Jjn pins (.bool b) = false := rfl
theorem Js1 (pins : List Nat) : Jjn pins .nils = false := rfl
theorem J0f (pins : List Nat) (a b c d : Nat) : Jjn pins (.arr a b c d) = false := rfl
theorem ptrIn_F {α : Type} (e : α → List AV) (pins : List Nat) (x : FS α) : Jjn pins (encF e x) = false := by cases x <;> rfl
theorem Jzn : snap h depth (.tup []) = some (.tup [], []) := rfl
theorem Qq (vs : List AV) : jt call f h vs = Jsv call f h vs.length (mkTb h true (fr (Jb6 0 vs)) (rng 0 vs.length) []) (Jln h (fr (Jb6 0 vs)) (rng 0 vs.length) (mkTb h true (fr (Jb6 0 vs)) (rng 0 vs.length) [])) := rfl
theorem Jts (n : Nat) (tb : List Win) (τ : St) : Jsv call f h n tb (some τ) = Jpr f (Jc1 0 (evN τ.f 0 n)) h tb (call f (evN τ.f 0 n) (some (τ.h, 0))) := rfl
theorem rng_0 (k : Nat) : rng k 0 = [] := rfl
theorem rng_s (k n : Nat) : rng k (n + 1) = k :: rng (k + 1) n := rfl
theorem evN_0 (F : Nat → AV) (k : Nat) : evN F k 0 = [] := rfl
theorem evN_s (F : Nat → AV) (k n : Nat) : evN F k (n + 1) = F k :: evN F (k + 1) n := rfl
theorem Jsi (k : Nat) : Jc1 k [] = [] := rfl
theorem Jpx (k : Nat) (v : AV) (r : List AV) : Jc1 k (v :: r) = Jg6 k v ++ Jc1 (k + 1) r := rfl
theorem Jww (k g v o : Nat) : Jg6 k (.ptr g v o) = if g = k then [k] else [] := rfl
theorem Jv9 (k g v o n : Nat) : Jg6 k (.arr g v o n) = if g = k then [k] else [] := rfl
theorem Jw0 (k g v : Nat) : Jg6 k (.map g v) = if g = k then [k] else [] := rfl
theorem Jvg (k : Nat) (q : IntKind) (n : Int) : Jg6 k (.int q n) = [] := rfl
theorem Jtm (k : Nat) (b : Bool) : Jg6 k (.bool b) = [] := rfl
theorem Jzt (k : Nat) (b : ByteArray) : Jg6 k (.str b) = [] := rfl
theorem Jv3 (k : Nat) (l : List AV) : Jg6 k (.agg l) = [] := rfl
theorem Jr2 (k : Nat) : Jg6 k .nils = [] := rfl
theorem refNo_fn (k : Nat) (g : FuncId) (l : List AV) : Jg6 k (.fn g l) = [] := rfl
theorem Js9 (k : Nat) (l : List AV) : Jg6 k (.rptr l) = [] := rfl
theorem refNo_F {α : Type} (e : α → List AV) (k : Nat) (x : FS α) : Jg6 k (encF e x) = [] := by cases x <;> rfl
theorem refNo_MP {K V : Type} (ek : K → AV) (ev : V → AV) (k : Nat) (es : List (K × V)) : Jg6 k (Jgt ek ev es) = [] := rfl
theorem Jtn (pn : List Nat) (tb : List Win) (v : AV) : Jpr f pn h tb (some (v, h1)) = backR h h1 v (embR h h1 f v (embH pn h h1 tb)) := rfl
theorem Jv2 (v : AV) (E : List Win) : embR h h1 f v (some E) = embW h h1 f E v := rfl
theorem embW_tup (E : List Win) (l : List AV) : embW h h1 f E (.tup l) = embC h h1 (700000 + f) 0 l E := rfl
theorem embW_arr (E : List Win) (a b c d : Nat) : embW h h1 f E (.arr a b c d) = embV h h1 (700000 + f) 0 E (.arr a b c d) := rfl
theorem embW_int (E : List Win) (k : IntKind) (n : Int) : embW h h1 f E (.int k n) = some E := rfl
theorem Jt9 (E : List Win) (b : Bool) : embW h h1 f E (.bool b) = some E := rfl
theorem embW_str (E : List Win) (b : ByteArray) : embW h h1 f E (.str b) = some E := rfl
theorem Jx8 (E : List Win) : embW h h1 f E .nils = some E := rfl
theorem Jw5 (E : List Win) : embW h h1 f E .nilp = some E := rfl
theorem Jw4 (E : List Win) : embW h h1 f E .nilf = some E := rfl
theorem Jze (E : List Win) : embW h h1 f E .nilm = some E := rfl
theorem embW_lst (E : List Win) (n : Nat) (l : List AV) : embW h h1 f E (.lst n l) = some E := rfl
theorem Jxs (E : List Win) (l : List AV) : embW h h1 f E (.rptr l) = some E := rfl
theorem embW_fn (E : List Win) (g : FuncId) (l : List AV) : embW h h1 f E (.fn g l) = some E := rfl
theorem embW_agg (E : List Win) (l : List AV) : embW h h1 f E (.agg l) = some E := rfl
theorem embW_ptr (E : List Win) (a b c : Nat) : embW h h1 f E (.ptr a b c) = some E := rfl
theorem embW_mpr (E : List Win) (a b : List AV) : embW h h1 f E (.mpr a b) = some E := rfl
theorem embW_F {α : Type} (e : α → List AV) (E : List Win) (x : FS α) : embW h h1 f E (encF e x) = some E := by cases x <;> rfl
theorem embW_MP {K V : Type} (ek : K → AV) (ev : V → AV) (E : List Win) (es : List (K × V)) : embW h h1 f E (Jgt ek ev es) = some E := rfl
theorem Jnz (pins : List Nat) (rs : List RV) (vs : List AV) : Jfl pins h rs (some vs) = finO pins h (Jhv h rs vs) := rfl
theorem Jw2 : Jhv h [] [] = some ([], []) := rfl
theorem Jtf (r : RV) (rs : List RV) (v : AV) (vs : List AV) : Jhv h (r :: rs) (v :: vs) = outC (outV h r v) (Jhv h rs vs) := rfl
theorem outV_own (t : Nat) (v : AV) : outV h (.own t) v = some (v, []) := rfl
theorem outV_tmp (t : Nat) (v : AV) : outV h (.tmp t) v = snap h depth v := rfl
theorem Jy9 (t : Nat) (a : Bool) (n : Nat) (v : AV) : outV h (.cell t a n) v = snap h depth v := rfl
theorem Jz6 (u : AV) (ns : List Nat) (us : List AV) (ms : List Nat) : outC (some (u, ns)) (some (us, ms)) = some (u :: us, ns ++ ms) := rfl
theorem Jz2 (pins : List Nat) (us : List AV) (ns : List Nat) : finO pins h (some (us, ns)) = endO us.length (norm pins (rng resB us.length) ⟨fr (Jb6 resB us), Kf h ns⟩) := rfl
theorem Jub (n : Nat) (τ : St) : endO n (some τ) = some (Jlk (evN τ.f resB n), τ.h) := rfl
theorem Ju8 (v : AV) : Jlk [v] = v := rfl
theorem Jzr (a b : AV) (l : List AV) : Jlk (a :: b :: l) = .tup (a :: b :: l) := rfl
theorem Jt4 (t : Nat) : RV.isOwn (.own t) = true := rfl
theorem Jyt (t : Nat) : RV.isOwn (.tmp t) = false := rfl
theorem Jtx (t : Nat) (a : Bool) (n : Nat) : RV.isOwn (.cell t a n) = false := rfl
theorem resB_eq : resB = 700000 := rfl
def embHK (h h1 : Heap) (tb : List Win) : Option (List Win) → Option (List Win)
  | some E => embB h h1 tb E
  | none => none
theorem embH_eq (pn : List Nat) (tb : List Win) : embH pn h h1 tb = embHK h h1 tb (embT pn h h1 tb) := by
  unfold embH embHK
  cases embT pn h h1 tb <;> rfl
theorem Js4 (tb E : List Win) : embHK h h1 tb (some E) = embB h h1 tb E := rfl
def embTK : Option (List Win) → Option (List Win) → Option (List Win)
  | some l, some m => some (l ++ m)
  | _, _ => none
theorem embT_nil (pn : List Nat) : embT pn h h1 [] = some [] := rfl
theorem Jv1 (pn : List Nat) (w : Win) (r : List Win) : embT pn h h1 (w :: r) = embTK (embO pn w (h w.g) (h1 w.nn)) (embT pn h h1 r) := by
  simp only [embT]
  cases embO pn w (h w.g) (h1 w.nn) <;> cases embT pn h h1 r <;> rfl
theorem Jsr (l m : List Win) : embTK (some l) (some m) = some (l ++ m) := rfl
theorem embO_box (pn : List Nat) (w : Win) (v : Nat) (c c' : List AV) : embO pn w (some (.box v c)) (some (.box 0 c')) = if pn.contains w.nn = true then some [⟨w.nn, w.g, v, 0, 0⟩] else none := rfl
theorem embO_map (pn : List Nat) (w : Win) (v : Nat) (c c' : List (AV × AV)) : embO pn w (some (.map v c false)) (some (.map 0 c' false)) = if pn.contains w.nn = true then some [⟨w.nn, w.g, v, 0, 0⟩] else none := rfl
theorem embO_arr (pn : List Nat) (w : Win) (v e e' : Nat) (t t' : TypeId) (c c' : List AV) (z z' : Bool) : embO pn w (some (.arr v e t c z)) (some (.arr 0 e' t' c' z')) =
    if pn.contains w.nn = true then (if e = e' ∧ t = t' ∧ w.off = 0 ∧ c'.length = c.length then some [⟨w.nn, w.g, v, 0, c'.length / e'⟩] else none)
    else if z = false ∧ z' = false then some [⟨w.nn, w.g, v + 1, 0, c'.length / e'⟩] else none := rfl
def embBK (h h1 : Heap) (r : List Win) : Option (List Win) → Option (List Win)
  | some E => embB h h1 r E
  | none => none
theorem embB_nil (E : List Win) : embB h h1 [] E = some E := rfl
theorem Jus (w : Win) (r E : List Win) : embB h h1 (w :: r) E = embBK h h1 r (embX h h1 w.g E (h1 w.nn)) := by
  simp only [embB]
  cases embX h h1 w.g E (h1 w.nn) <;> rfl
theorem Jtc (r E : List Win) : embBK h h1 r (some E) = embB h h1 r E := rfl
theorem embX_box (g v : Nat) (E : List Win) (c : List AV) : embX h h1 g E (some (.box v c)) = if c.all AV.flat = true then some E else embC h h1 g 0 c E := rfl
theorem embX_arr (g v e : Nat) (t : TypeId) (E : List Win) (c : List AV) (z : Bool) : embX h h1 g E (some (.arr v e t c z)) = some E := rfl
theorem embX_map (g v : Nat) (E : List Win) (c : List (AV × AV)) (z : Bool) : embX h h1 g E (some (.map v c z)) = some E := rfl
def embCK (h h1 : Heap) (g j : Nat) (r : List AV) : Option (List Win) → Option (List Win)
  | some E => embC h h1 g (j + 1) r E
  | none => none
theorem embC_nil (g j : Nat) (E : List Win) : embC h h1 g j [] E = some E := rfl
theorem Jzb (g j : Nat) (v : AV) (r : List AV) (E : List Win) : embC h h1 g j (v :: r) E = embCK h h1 g j r (embV h h1 g j E v) := by
  simp only [embC]
  cases embV h h1 g j E v <;> rfl
theorem Jsx (g j : Nat) (r : List AV) (E : List Win) : embCK h h1 g j r (some E) = embC h h1 g (j + 1) r E := rfl
theorem embV_arr (g j n len : Nat) (E : List Win) : embV h h1 g j E (.arr n 0 0 len) = embA h g j E n len (h1 n) := rfl
theorem embV_int (g j : Nat) (E : List Win) (k : IntKind) (n : Int) : embV h h1 g j E (.int k n) = some E := rfl
theorem J0n (g j : Nat) (E : List Win) (b : Bool) : embV h h1 g j E (.bool b) = some E := rfl
theorem Jxt (g j : Nat) (E : List Win) : embV h h1 g j E .nils = some E := rfl
theorem embV_str (g j : Nat) (E : List Win) (b : ByteArray) : embV h h1 g j E (.str b) = some E := rfl
theorem Jw1 (g j : Nat) (E : List Win)  : embV h h1 g j E .nilp = some E := rfl
theorem Jxf (g j : Nat) (E : List Win)  : embV h h1 g j E .nilf = some E := rfl
theorem Jzs (g j : Nat) (E : List Win)  : embV h h1 g j E .nilm = some E := rfl
theorem embV_lst (g j : Nat) (E : List Win) (n : Nat) (l : List AV) : embV h h1 g j E (.lst n l) = some E := rfl
theorem J0a (g j : Nat) (E : List Win) (l : List AV) : embV h h1 g j E (.rptr l) = some E := rfl
theorem embV_fn (g j : Nat) (E : List Win) (q : FuncId) (l : List AV) : embV h h1 g j E (.fn q l) = some E := rfl
theorem embV_agg (g j : Nat) (E : List Win) (l : List AV) : embV h h1 g j E (.agg l) = some E := rfl
theorem embV_ptr (g j : Nat) (E : List Win) (a b c : Nat) : embV h h1 g j E (.ptr a b c) = some E := rfl
theorem embV_mpr (g j : Nat) (E : List Win) (a b : List AV) : embV h h1 g j E (.mpr a b) = some E := rfl
theorem embV_MP {K V : Type} (ek : K → AV) (ev : V → AV) (g j : Nat) (E : List Win) (es : List (K × V)) : embV h h1 g j E (Jgt ek ev es) = some E := rfl
theorem embV_F {α : Type} (e : α → List AV) (g j : Nat) (E : List Win) (x : FS α) : embV h h1 g j E (encF e x) = some E := by cases x <;> rfl
theorem embA_arr (g j e n len : Nat) (t : TypeId) (E : List Win) (c : List AV) : embA h g j E n len (some (.arr 0 e t c false)) = if Jby E n = none then some (E ++ [⟨n, Jki g j, K7 h (Jki g j), 0, len⟩]) else some E := rfl
theorem Jr4 (v : AV) (E : List Win) : backR h h1 v (some E) = if nnB E [] = true then some (ren h1 E v, updR h1 E E h) else none := rfl
theorem updR_nil (E : List Win) : updR h1 E [] h = h := rfl
theorem Jz0 (E : List Win) (w : Win) (r : List Win) : updR h1 E (w :: r) h = upd (updR h1 E r h) w.nn (renM h1 E w (h1 w.g)) := rfl
theorem calW_fn (l : List AV) (g : FuncId) (caps : List AV) : calW call h l (.fn g caps) = jt call g h (l ++ caps) := rfl
theorem Jsh (off g : Nat) (ps : List (AV × List Nat)) : Jsw off g (some ps) = some (.rptr ((ps.map (·.1)).drop off), g :: ps.flatMap (·.2)) := rfl
end
theorem len_of {α β : Type} {x : FS α} {y : FS β} (h : ieq (flen x) (flen y) = true) : y.l.length = x.l.length := by
  have : flen x = flen y := by simpa [ieq] using h
  unfold flen at this
  omega
section
variable {α : Type} {w : Nat} {e : α → List AV} [hE : EncOK w e]
end
attribute [simp ↓] Jzd Jue Jsn
attribute [simp] Jsh Jte Jyq pin1_box pin1_arr pin1_map Jx4 Jt3 Jxg Jvp Jya Jvu Jye Jst Js1 J0f ptrIn_F Jzn
  Qq Jts rng_0 rng_s evN_0 evN_s Jsi Jpx Jww Jv9 Jw0 Jvg Jtm Jzt Jv3 Jr2 refNo_fn Js9 refNo_F refNo_MP
  Jtn embV_str Jw1 Jxf Jzs embV_lst J0a embV_fn embV_agg embV_ptr embV_mpr embV_MP Jv2 embW_tup embW_arr embW_int Jt9 embW_str Jx8 Jw5 Jw4 Jze embW_lst Jxs embW_fn embW_agg embW_ptr embW_mpr embW_F embW_MP Jnz Jw2 Jtf outV_own outV_tmp Jy9 Jz6 Jz2 Jub Ju8 Jzr Jt4 Jyt Jtx resB_eq embH_eq Js4 embT_nil Jv1 Jsr embO_box embO_map embO_arr embB_nil Jus Jtc embX_box embX_arr embX_map embC_nil Jzb Jsx embV_arr embV_int J0n Jxt embV_F embA_arr Jr4 updR_nil Jz0 calW_fn Jb6 Jki
end Go.Vv
