/- Rules for calls that share boxes and rows, as equations for rewriting. Conditions: none. -/
import Derived.Test.YtchiiiahgmfofaaVs
namespace Go.Vv
open Go
set_option linter.unusedSectionVars false
section
variable (h h1 : Heap) (call : Call) (f : FuncId)
def normK (h : Heap) (F : Nat → AV) (ks : List Nat) : Option (List Win) → Option St
  | some tb => normT h F ks (mkTb h false F ks tb)
  | none => none
theorem norm_pins (p : Nat) (ps ks : List Nat) (F : Nat → AV) : norm (p :: ps) ks ⟨F, h⟩ = normK h F ks (mkPin h (p :: ps) []) := by
  unfold norm normK
  cases mkPin h (p :: ps) [] <;> rfl
theorem normK_some (F : Nat → AV) (ks : List Nat) (tb : List Win) : normK h F ks (some tb) = normT h F ks (mkTb h false F ks tb) := rfl
def pinK (h : Heap) (r : List Nat) : Option (List Win) → Option (List Win)
  | some tb => mkPin h r tb
  | none => none
theorem mkPin_nil (tb : List Win) : mkPin h [] tb = some tb := rfl
theorem mkPin_cons (i : Nat) (r : List Nat) (tb : List Win) : mkPin h (i :: r) tb = pinK h r (pin1 h i tb (h i)) := by
  unfold mkPin pinK
  cases pin1 h i tb (h i) <;> rfl
theorem pinK_some (r : List Nat) (tb : List Win) : pinK h r (some tb) = mkPin h r tb := rfl
theorem pin1_box (i : Nat) (tb : List Win) (c : List AV) : pin1 h i tb (some (.box 0 c)) = if findW tb i = none then some (addB h tb i i c) else none := rfl
theorem pin1_arr (i e : Nat) (el : TypeId) (tb : List Win) (c : List AV) (z : Bool) : pin1 h i tb (some (.arr 0 e el c z)) = if findW tb i = none then some (tb ++ [⟨i, i, 0, 0, c.length / e⟩]) else none := rfl
theorem pin1_map (i : Nat) (tb : List Win) (es : List (AV × AV)) (z : Bool) : pin1 h i tb (some (.map 0 es z)) = if findW tb i = none then some (tb ++ [⟨i, i, 0, 0, 0⟩]) else none := rfl
theorem finR_some (pins : List Nat) (v : AV) : finishR pins h (some v) = if ptrIn pins v = true then endR v (norm pins [] ⟨fun _ => .any, h⟩) else endS pins h (snap h depth v) := rfl
theorem endS_some (pins : List Nat) (u : AV) (ns : List Nat) : endS pins h (some (u, ns)) = endR u (norm pins [] ⟨fun _ => .any, freezeAll h ns⟩) := rfl
theorem endR_some (v : AV) (τ : St) : endR v (some τ) = some (v, τ.h) := rfl
theorem ptrIn_ptr (pins : List Nat) (g o : Nat) : ptrIn pins (.ptr g 0 o) = pins.contains g := rfl
theorem ptrIn_tup (pins : List Nat) (l : List AV) : ptrIn pins (.tup l) = false := rfl
theorem ptrIn_agg (pins : List Nat) (l : List AV) : ptrIn pins (.agg l) = false := rfl
theorem ptrIn_int (pins : List Nat) (k : IntKind) (n : Int) : ptrIn pins (.int k n) = false := rfl
theorem ptrIn_bool (pins : List Nat) (b : Bool) : ptrIn pins (.bool b) = false := rfl
theorem ptrIn_nils (pins : List Nat) : ptrIn pins .nils = false := rfl
theorem ptrIn_arr (pins : List Nat) (a b c d : Nat) : ptrIn pins (.arr a b c d) = false := rfl
theorem ptrIn_F {α : Type} (e : α → List AV) (pins : List Nat) (x : FS α) : ptrIn pins (encF e x) = false := by cases x <;> rfl
theorem snap_tup0 : snap h depth (.tup []) = some (.tup [], []) := rfl
theorem callR_eq (vs : List AV) : callR call f h vs = callS call f h vs.length (mkTb h true (fr (argsF 0 vs)) (rng 0 vs.length) []) (normT h (fr (argsF 0 vs)) (rng 0 vs.length) (mkTb h true (fr (argsF 0 vs)) (rng 0 vs.length) [])) := rfl
theorem callS_some (n : Nat) (tb : List Win) (τ : St) : callS call f h n tb (some τ) = callB (pinsOf 0 (evN τ.f 0 n)) h tb (call f (evN τ.f 0 n) (some (τ.h, 0))) := rfl
theorem rng_0 (k : Nat) : rng k 0 = [] := rfl
theorem rng_s (k n : Nat) : rng k (n + 1) = k :: rng (k + 1) n := rfl
theorem evN_0 (F : Nat → AV) (k : Nat) : evN F k 0 = [] := rfl
theorem evN_s (F : Nat → AV) (k n : Nat) : evN F k (n + 1) = F k :: evN F (k + 1) n := rfl
theorem evN_n (F : Nat → AV) (k n m : Nat) (e : n = m + 1) : evN F k n = F k :: evN F (k + 1) m := by subst e; rfl
theorem rng_n (k n m : Nat) (e : n = m + 1) : rng k n = k :: rng (k + 1) m := by subst e; rfl
theorem pinsOf_nil (k : Nat) : pinsOf k [] = [] := rfl
theorem pinsOf_cons (k : Nat) (v : AV) (r : List AV) : pinsOf k (v :: r) = refNo k v ++ pinsOf (k + 1) r := rfl
theorem refNo_ptr (k g v o : Nat) : refNo k (.ptr g v o) = if g = k then [k] else [] := rfl
theorem refNo_arr (k g v o n : Nat) : refNo k (.arr g v o n) = if g = k then [k] else [] := rfl
theorem refNo_map (k g v : Nat) : refNo k (.map g v) = if g = k then [k] else [] := rfl
theorem refNo_int (k : Nat) (q : IntKind) (n : Int) : refNo k (.int q n) = [] := rfl
theorem refNo_bool (k : Nat) (b : Bool) : refNo k (.bool b) = [] := rfl
theorem refNo_str (k : Nat) (b : ByteArray) : refNo k (.str b) = [] := rfl
theorem refNo_agg (k : Nat) (l : List AV) : refNo k (.agg l) = [] := rfl
theorem refNo_nils (k : Nat) : refNo k .nils = [] := rfl
theorem refNo_fn (k : Nat) (g : FuncId) (l : List AV) : refNo k (.fn g l) = [] := rfl
theorem refNo_rptr (k : Nat) (l : List AV) : refNo k (.rptr l) = [] := rfl
theorem refNo_F {α : Type} (e : α → List AV) (k : Nat) (x : FS α) : refNo k (encF e x) = [] := by cases x <;> rfl
theorem refNo_MP {K V : Type} (ek : K → AV) (ev : V → AV) (k : Nat) (es : List (K × V)) : refNo k (encMP ek ev es) = [] := rfl
theorem callB_some (pn : List Nat) (tb : List Win) (v : AV) : callB pn h tb (some (v, h1)) = backR h h1 v (embH pn h h1 tb) := rfl
def embHK (h h1 : Heap) (tb : List Win) : Option (List Win) → Option (List Win)
  | some E => embB h h1 tb E
  | none => none
theorem embH_eq (pn : List Nat) (tb : List Win) : embH pn h h1 tb = embHK h h1 tb (embT pn h h1 tb) := by
  unfold embH embHK
  cases embT pn h h1 tb <;> rfl
theorem embHK_some (tb E : List Win) : embHK h h1 tb (some E) = embB h h1 tb E := rfl
def embTK : Option (List Win) → Option (List Win) → Option (List Win)
  | some l, some m => some (l ++ m)
  | _, _ => none
theorem embT_nil (pn : List Nat) : embT pn h h1 [] = some [] := rfl
theorem embT_cons (pn : List Nat) (w : Win) (r : List Win) : embT pn h h1 (w :: r) = embTK (embO pn w (h w.g) (h1 w.nn)) (embT pn h h1 r) := by
  simp only [embT]
  cases embO pn w (h w.g) (h1 w.nn) <;> cases embT pn h h1 r <;> rfl
theorem embTK_some (l m : List Win) : embTK (some l) (some m) = some (l ++ m) := rfl
theorem embO_box (pn : List Nat) (w : Win) (v : Nat) (c c' : List AV) : embO pn w (some (.box v c)) (some (.box 0 c')) = if pn.contains w.nn = true then some [⟨w.nn, w.g, v, 0, 0⟩] else none := rfl
theorem embO_map (pn : List Nat) (w : Win) (v : Nat) (c c' : List (AV × AV)) : embO pn w (some (.map v c false)) (some (.map 0 c' false)) = if pn.contains w.nn = true then some [⟨w.nn, w.g, v, 0, 0⟩] else none := rfl
theorem embO_arr (pn : List Nat) (w : Win) (v e e' : Nat) (t t' : TypeId) (c c' : List AV) (z z' : Bool) : embO pn w (some (.arr v e t c z)) (some (.arr 0 e' t' c' z')) =
    if pn.contains w.nn = true then (if e = e' ∧ t = t' ∧ w.off = 0 ∧ c'.length = c.length then some [⟨w.nn, w.g, v, 0, c'.length / e'⟩] else none)
    else if z = false ∧ z' = false then some [⟨w.nn, w.g, v + 1, 0, c'.length / e'⟩] else none := rfl
def embBK (h h1 : Heap) (r : List Win) : Option (List Win) → Option (List Win)
  | some E => embB h h1 r E
  | none => none
theorem embB_nil (E : List Win) : embB h h1 [] E = some E := rfl
theorem embB_cons (w : Win) (r E : List Win) : embB h h1 (w :: r) E = embBK h h1 r (embX h h1 w.g E (h1 w.nn)) := by
  simp only [embB]
  cases embX h h1 w.g E (h1 w.nn) <;> rfl
theorem embBK_some (r E : List Win) : embBK h h1 r (some E) = embB h h1 r E := rfl
theorem embX_box (g v : Nat) (E : List Win) (c : List AV) : embX h h1 g E (some (.box v c)) = if c.all AV.flat = true then some E else embC h h1 g 0 c E := rfl
theorem embX_arr (g v e : Nat) (t : TypeId) (E : List Win) (c : List AV) (z : Bool) : embX h h1 g E (some (.arr v e t c z)) = some E := rfl
theorem embX_map (g v : Nat) (E : List Win) (c : List (AV × AV)) (z : Bool) : embX h h1 g E (some (.map v c z)) = some E := rfl
def embCK (h h1 : Heap) (g j : Nat) (r : List AV) : Option (List Win) → Option (List Win)
  | some E => embC h h1 g (j + 1) r E
  | none => none
theorem embC_nil (g j : Nat) (E : List Win) : embC h h1 g j [] E = some E := rfl
theorem embC_cons (g j : Nat) (v : AV) (r : List AV) (E : List Win) : embC h h1 g j (v :: r) E = embCK h h1 g j r (embV h h1 g j E v) := by
  simp only [embC]
  cases embV h h1 g j E v <;> rfl
theorem embCK_some (g j : Nat) (r : List AV) (E : List Win) : embCK h h1 g j r (some E) = embC h h1 g (j + 1) r E := rfl
theorem embV_arr (g j n len : Nat) (E : List Win) : embV h h1 g j E (.arr n 0 0 len) = embA h g j E n len (h1 n) := rfl
theorem embV_int (g j : Nat) (E : List Win) (k : IntKind) (n : Int) : embV h h1 g j E (.int k n) = some E := rfl
theorem embV_bool (g j : Nat) (E : List Win) (b : Bool) : embV h h1 g j E (.bool b) = some E := rfl
theorem embV_nils (g j : Nat) (E : List Win) : embV h h1 g j E .nils = some E := rfl
theorem embV_F {α : Type} (e : α → List AV) (g j : Nat) (E : List Win) (x : FS α) : embV h h1 g j E (encF e x) = some E := by cases x <;> rfl
theorem embA_arr (g j e n len : Nat) (t : TypeId) (E : List Win) (c : List AV) : embA h g j E n len (some (.arr 0 e t c false)) = if findW E n = none then some (E ++ [⟨n, nameOf g j, newVer h (nameOf g j), 0, len⟩]) else some E := rfl
theorem backR_some (v : AV) (E : List Win) : backR h h1 v (some E) = if nnB E [] = true then some (ren h1 E v, updR h1 E E h) else none := rfl
theorem updR_nil (E : List Win) : updR h1 E [] h = h := rfl
theorem updR_cons (E : List Win) (w : Win) (r : List Win) : updR h1 E (w :: r) h = upd (updR h1 E r h) w.nn (renM h1 E w (h1 w.g)) := rfl
theorem calW_fn (l : List AV) (g : FuncId) (caps : List AV) : calW call h l (.fn g caps) = callR call g h (l ++ caps) := rfl
theorem qboxM_some (off g : Nat) (ps : List (AV × List Nat)) : qboxM off g (some ps) = some (.rptr ((ps.map (·.1)).drop off), g :: ps.flatMap (·.2)) := rfl
theorem cut_all {α : Type} {w : Nat} {e : α → List AV} [hE : EncOK w e] (x : FS α) (n : Nat) (hn : n = x.l.length * w) : cut (cellsE e x.l) 0 n = cellsE e x.l := cut_cells (e := e) x.l n hn
end
theorem len_of {α β : Type} {x : FS α} {y : FS β} (h : ieq (flen x) (flen y) = true) : y.l.length = x.l.length := by
  have : flen x = flen y := by simpa [ieq] using h
  unfold flen at this
  omega
theorem aOff_add (a o s : Nat) (j : Int) : aOff (a + o) s j = a + aOff o s j := Nat.add_assoc a o (j.toNat * s)
theorem aOff_add0 (a s : Nat) (j : Int) : aOff a s j = a + aOff 0 s j := by unfold aOff; omega
section
variable {α : Type} {w : Nat} {e : α → List AV} [hE : EncOK w e]
theorem pack_rowA {x : FS α} {i : Int} {a : α} (hg : fget x i = some a) (ag : Bool) (o s n : Nat) (j : Int) (ho : aOff o s j + n ≤ w) (hn0 : 0 < n) : pack ag (cellsE e x.l) (aOff (pIdx w i + o) s j) n = pack ag (e a) (aOff o s j) n := by
  rw [aOff_add]; exact pack_row (e := e) hg ag _ n ho hn0
theorem pack_rowA0 {x : FS α} {i : Int} {a : α} (hg : fget x i = some a) (ag : Bool) (s n : Nat) (j : Int) (ho : aOff 0 s j + n ≤ w) (hn0 : 0 < n) : pack ag (cellsE e x.l) (aOff (pIdx w i) s j) n = pack ag (e a) (aOff 0 s j) n := by
  rw [aOff_add0]; exact pack_row (e := e) hg ag _ n ho hn0
theorem paste_rowA {x : FS α} {i : Int} {a y : α} (hg : fget x i = some a) {o s : Nat} {j : Int} {c : List AV} (ho : aOff o s j + c.length ≤ w) (hy : paste (e a) (aOff o s j) c = e y) : paste (cellsE e x.l) (aOff (pIdx w i + o) s j) c = cellsE e (fset x i y).l := by
  rw [aOff_add]; exact paste_row (e := e) hg ho hy
theorem paste_rowA0 {x : FS α} {i : Int} {a y : α} (hg : fget x i = some a) {s : Nat} {j : Int} {c : List AV} (ho : aOff 0 s j + c.length ≤ w) (hy : paste (e a) (aOff 0 s j) c = e y) : paste (cellsE e x.l) (aOff (pIdx w i) s j) c = cellsE e (fset x i y).l := by
  rw [aOff_add0]; exact paste_row (e := e) hg ho hy
omit hE in
theorem in_rowA {x : FS α} {i : Int} {a : α} (hg : fget x i = some a) (o s n : Nat) (j : Int) (ho : aOff o s j + n ≤ w) : aOff (pIdx w i + o) s j + n ≤ x.l.length * w := by
  rw [aOff_add]; exact in_row hg _ n ho
omit hE in
theorem in_rowA0 {x : FS α} {i : Int} {a : α} (hg : fget x i = some a) (s n : Nat) (j : Int) (ho : aOff 0 s j + n ≤ w) : aOff (pIdx w i) s j + n ≤ x.l.length * w := by
  rw [aOff_add0]; exact in_row hg _ n ho
end
attribute [simp ↓] norm_pins mkPin_nil mkPin_cons
attribute [simp] qboxM_some normK_some pinK_some pin1_box pin1_arr pin1_map finR_some endS_some endR_some ptrIn_ptr ptrIn_tup ptrIn_agg ptrIn_int ptrIn_bool ptrIn_nils ptrIn_arr ptrIn_F snap_tup0
  callR_eq callS_some rng_0 rng_s evN_0 evN_s pinsOf_nil pinsOf_cons refNo_ptr refNo_arr refNo_map refNo_int refNo_bool refNo_str refNo_agg refNo_nils refNo_fn refNo_rptr refNo_F refNo_MP
  callB_some embH_eq embHK_some embT_nil embT_cons embTK_some embO_box embO_map embO_arr embB_nil embB_cons embBK_some embX_box embX_arr embX_map embC_nil embC_cons embCK_some embV_arr embV_int embV_bool embV_nils embV_F embA_arr backR_some updR_nil updR_cons calW_fn argsF nameOf
end Go.Vv
