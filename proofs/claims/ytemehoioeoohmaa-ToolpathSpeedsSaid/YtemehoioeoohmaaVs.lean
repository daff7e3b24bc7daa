/- Rules for walking typed functions: rows as slices, views, maps, arrays, pointers that are read out, calls that share. Conditions: none. -/
import Derived.Test.YtemehoioeoohmaaVr
namespace Go.Vv
open Go
set_option linter.unusedSectionVars false

/-! Rows of the call's own, as slices. -/
section
variable {α : Type}
def Zy (x : FS α) (a : α) : FS α := .lst (x.l ++ [a])
def fapp (x y : FS α) : FS α := .lst (x.l ++ y.l)
def fset (x : FS α) (i : Int) (a : α) : FS α := .lst (x.l.set i.toNat a)
def frep (z : α) (n : Int) : FS α := .lst (List.replicate n.toNat z)
def flit (l : List α) : FS α := .lst l
/-- The same, as a row. -/
def flst (x : FS α) : FS α := .lst x.l
/-- A slice that is appended to nil: nil if it is empty. -/
def fnil (x : FS α) : FS α := if x.l = [] then .nil else .lst x.l
theorem Jag (x : FS α) (a : α) : (Zy x a).l = x.l ++ [a] := rfl
theorem Jmk (x y : FS α) : (fapp x y).l = x.l ++ y.l := rfl
theorem Jfq (x : FS α) (i : Int) (a : α) : (fset x i a).l = x.l.set i.toNat a := rfl
theorem J8 (x : FS α) (i : Int) (a : α) : (fset x i a).l.length = x.l.length := by rw [Jfq, List.length_set]
theorem Je0 (l : List α) : (flit l).l = l := rfl
theorem Jn0 (x : FS α) : (flst x).l = x.l := rfl
end
/-- One step that may fail, and the rest. -/
def Jdo {α β : Type} (x : Option α) (f : α → Option β) : Option β := match x with
  | none => none
  | some v => f v
theorem K1 {α β : Type} (f : α → Option β) : Jdo none f = none := rfl
theorem K2 {α β : Type} (v : α) (f : α → Option β) : Jdo (some v) f = f v := rfl
/-- A division that may fail. -/
def quoO (k : IntKind) (a b : Int) : Option Int := if ieq b 0 = true then none else some (iquo k a b)
def remO (a b : Int) : Option Int := if ieq b 0 = true then none else some (irem a b)
theorem Juv {k : IntKind} {a b v : Int} (h : quoO k a b = some v) : ieq b 0 = false := by
  unfold quoO at h; split at h
  · cases h
  · rename_i hb; simpa using hb
theorem Jup {k : IntKind} {a b v : Int} (h : quoO k a b = some v) : iquo k a b = v := by
  unfold quoO at h; split at h
  · cases h
  · injection h
/-- Is it nil? Of an empty slice that came in nothing is known. -/
def Jkr {α : Type} : FS α → Option Bool
  | .nil => some true
  | .lst [] => none
  | .lst (_ :: _) => some false
theorem Jta (h : Heap) : Je5 h .nils = some true := rfl
theorem J0i (h : Heap) (g v o n : Nat) : Je5 h (.arr g v o n) = if Jas h g v = true then some false else none := rfl
attribute [simp] Jta J0i
theorem Jzc {α : Type} {e : α → List AV} {x : FS α} {b : Bool} (hx : Jkr x = some b) (h : Heap) : Je5 h (encF e x) = some b := by
  cases x with
  | nil => cases hx; rfl
  | lst l =>
    cases l with
    | nil => cases hx
    | cons a l => cases hx; rfl
section
variable {α : Type} {w : Nat} {e : α → List AV} [hE : EncOK w e]
theorem lenV_row (h : Heap) (g v off : Nat) (x : FS α) : lenV h (.arr g v off x.l.length) = if Jas h g v = true then some (flen x) else none := rfl
theorem Yd {h : Heap} {g v : Nat} {x : FS α} {el : TypeId} {fz : Bool} (e1 : h g = some (.arr v w el (Jn e x.l) fz)) :
    snap h depth (.arr g v 0 x.l.length) = some (encF e (flst x), [g]) := Joc 7 e1
theorem Je9 {h : Heap} {g v : Nat} {x : FS α} {el : TypeId} {fz : Bool} (e1 : h g = some (.arr v w el (Jn e x.l) fz)) :
    snap h 7 (.arr g v 0 x.l.length) = some (encF e (flst x), [g]) := Joc 6 e1
theorem Y3 {x : FS α} {i : Int} {a : α} (hg : fget x i = some a) (h : Heap) (k : IntKind) (g v : Nat) : Jc6 h w (.arr g v 0 x.l.length) (.int k i) = if curA h g v w = true then some (.ptr g v (pIdx w i)) else none := Jvn (l := x.l) hg h k g v
theorem Jjm {x : FS α} {i : Int} {a : α} (hg : fget x i = some a) (ag : Bool) (off n : Nat) (ho : off + n ≤ w) (hn0 : 0 < n) : pack ag (Jn e x.l) (pIdx w i + off) n = pack ag (e a) off n := Jrd (e := e) (l := x.l) hg ag off n ho hn0
theorem Z1 {x : FS α} {i : Int} {a : α} (hg : fget x i = some a) (ag : Bool) (n : Nat) (ho : n ≤ w) (hn0 : 0 < n) : pack ag (Jn e x.l) (pIdx w i) n = pack ag (e a) 0 n := Jxk (e := e) (l := x.l) hg ag n ho hn0
theorem Jok {x : FS α} {i : Int} {a y : α} (hg : fget x i = some a) {off : Nat} {c : List AV} (ho : off + c.length ≤ w) (hy : paste (e a) off c = e y) : paste (Jn e x.l) (pIdx w i + off) c = Jn e (fset x i y).l := Jo8 (e := e) (l := x.l) hg ho hy
theorem Jd5 {x : FS α} {i : Int} {a y : α} (hg : fget x i = some a) {c : List AV} (ho : c.length ≤ w) (hy : paste (e a) 0 c = e y) : paste (Jn e x.l) (pIdx w i) c = Jn e (fset x i y).l := Jtb (e := e) (l := x.l) hg ho hy
theorem in_row {x : FS α} {i : Int} {a : α} (hg : fget x i = some a) (off n : Nat) (ho : off + n ≤ w) : pIdx w i + off + n ≤ x.l.length * w := in_own (l := x.l) hg off n ho
theorem Jku {x : FS α} {i : Int} {a : α} (hg : fget x i = some a) (n : Nat) (ho : n ≤ w) : pIdx w i + n ≤ x.l.length * w := in_own0 (l := x.l) hg n ho
theorem j9 {x : FS α} {a : α} {bytes : Nat} (hf : fits bytes (flen x + 1) = true) (hw : 0 < w) (g0 : Nat) {h : Heap} {g v : Nat} {el : TypeId} {y : AV} (hg : h g = some (.arr v w el (Jn e x.l) false)) (h1 : lenV h y = some 1)
    (h2 : Jb0 h w y = some (e a)) : appV h g0 w bytes el (.arr g v 0 x.l.length) y = some (.arr g (v + 1) 0 (Zy x a).l.length, upd h g (some (.arr (v + 1) w el (Jn e (Zy x a).l) false))) := app_one (l := x.l) (x := a) hf hw g0 hg h1 h2
theorem Jds {a : α} {bytes : Nat} (hf : fits bytes (flen (FS.nil : FS α) + 1) = true) (hw : 0 < w) {h : Heap} {g0 : Nat} {el : TypeId} {y : AV} (hg : h g0 = none) (h1 : lenV h y = some 1) (h2 : Jb0 h w y = some (e a)) :
    appV h g0 w bytes el .nils y = some (.arr g0 1 0 (Zy (FS.nil : FS α) a).l.length, upd h g0 (some (.arr 1 w el (Jn e (Zy (FS.nil : FS α) a).l) false))) := app_nil1 (x := a) (show fits bytes 1 = true from hf) hw hg h1 h2
theorem app_rows {x y : FS α} {bytes : Nat} (hf : fits bytes (flen x + flen y) = true) (hw : 0 < w) (g0 : Nat) {h : Heap} {g v : Nat} {el : TypeId} {u : AV} (hg : h g = some (.arr v w el (Jn e x.l) false)) (h1 : lenV h u = some (flen y))
    (h2 : Jb0 h w u = some (Jn e y.l)) : appV h g0 w bytes el (.arr g v 0 x.l.length) u = some (.arr g (bump v (flen y)) 0 (fapp x y).l.length, upd h g (some (.arr (bump v (flen y)) w el (Jn e (fapp x y).l) false))) := app_many (l := x.l) (m := y.l) hf hw g0 hg h1 h2
theorem Jb4 {x y : FS α} {bytes : Nat} (hf : fits bytes (flen x + flen y) = true) (hw : 0 < w) (g0 : Nat) {h : Heap} {g v : Nat} {el : TypeId} (hg : h g = some (.arr v w el (Jn e x.l) false)) :
    appV h g0 w bytes el (.arr g v 0 x.l.length) (encF e y) = some (.arr g (bump v (flen y)) 0 (fapp x y).l.length, upd h g (some (.arr (bump v (flen y)) w el (Jn e (fapp x y).l) false))) :=
  app_rows (e := e) hf hw g0 hg (lenV_F h y) (Jyr h y)
theorem mk_row {z : α} {bytes : Nat} {n m : Int} (hok : mkOK bytes n m = true) {h : Heap} {g0 : Nat} (hg : h g0 = none) (el : TypeId) (k k' : IntKind) :
    mkV h g0 w bytes el (e z) (.int k n) (.int k' m) = some (.arr g0 0 0 (frep z n).l.length, upd h g0 (some (.arr 0 w el (Jn e (frep z n).l) false))) := by
  exact mk_own (e := e) (z := z) hok hg el k k'
/-! A part of a row. -/
omit hE in
theorem Jim {x m : FS α} {a b : Int} (hs : fsl x a b = some m) : 0 ≤ a ∧ a ≤ b ∧ b ≤ x.l.length ∧ m.l = (x.l.drop a.toNat).take (b - a).toNat ∧ m.l.length = (b - a).toNat := by
  cases x with
  | nil =>
    simp only [fsl] at hs
    split at hs
    · rename_i hc; cases hs; obtain ⟨rfl, rfl⟩ := hc; simp [FS.l]
    · cases hs
  | lst l =>
    simp only [fsl] at hs
    split at hs
    · rename_i hc; cases hs; refine ⟨hc.1, hc.2.1, hc.2.2, rfl, ?_⟩; simp only [FS.l, List.length_take, List.length_drop] at *; omega
    · cases hs
omit hE in
theorem Joq {x m : FS α} {a b : Int} (hs : fsl x a b = some m) (h : Heap) (k k' : IntKind) (g v : Nat) : Jbi h w (.arr g v 0 x.l.length) (some (.int k a)) (some (.int k' b)) = if curA h g v w = true then some (.arr g v a.toNat m.l.length) else none := by
  obtain ⟨h1, h2, h3, -, h5⟩ := Jim hs
  simp only [Jbi, Jbn, h5, Nat.zero_add]
  by_cases hc : curA h g v w = true
  · rw [if_pos ⟨h1, h2, h3, hc⟩, if_pos hc]
  · rw [if_neg (fun hh => hc hh.2.2.2), if_neg hc]
omit hE in
theorem Jcu {x m : FS α} {a : Int} (hs : fsl x a (flen x) = some m) (h : Heap) (k : IntKind) (g v : Nat) : Jbi h w (.arr g v 0 x.l.length) (some (.int k a)) none = if curA h g v w = true then some (.arr g v a.toNat m.l.length) else none :=
  Joq hs h k .i64 g v
omit hE in
theorem Jew {x m : FS α} {b : Int} (hs : fsl x 0 b = some m) (h : Heap) (k' : IntKind) (g v : Nat) : Jbi h w (.arr g v 0 x.l.length) none (some (.int k' b)) = if curA h g v w = true then some (.arr g v 0 m.l.length) else none :=
  Joq hs h .i64 k' g v
omit hE in
theorem Jcn {x m : FS α} {a b : Int} (hs : fsl x a b = some m) (w : Nat) : a.toNat * w ≤ x.l.length * w := by
  obtain ⟨h1, h2, h3, -, -⟩ := Jim hs
  exact Nat.mul_le_mul_right w (by omega)
theorem Jbd {x m : FS α} {a b : Int} (hs : fsl x a b = some m) : cut (Jn e x.l) (a.toNat * w) (m.l.length * w) = Jn e m.l := by
  obtain ⟨h1, h2, h3, h4, h5⟩ := Jim hs
  unfold cut
  rw [Jgp, Jkx, h5, h4]
theorem Jme {x m : FS α} {a b : Int} (hs : fsl x a b = some m) {h : Heap} {g v : Nat} {el : TypeId} {fz : Bool} (hg : h g = some (.arr v w el (Jn e x.l) fz)) : Jb0 h w (.arr g v a.toNat m.l.length) = some (Jn e m.l) := by
  obtain ⟨h1, h2, h3, h4, h5⟩ := Jim hs
  simp only [Jb0, hg]
  rw [if_pos ⟨trivial, trivial, by rw [jn (e := e)]; exact Nat.mul_le_mul_right w (by omega)⟩, Jbd (e := e) hs]
/-- A slice is appended to a part of a row. -/
theorem app_cut {x m y : FS α} {a b : Int} (hs : fsl x a b = some m) {bytes : Nat} (hf : fits bytes (flen m + flen y) = true) (hz : ieq (flen y) 0 = false) (hw : 0 < w) (g0 : Nat) {h : Heap} {g v : Nat} {el : TypeId} {u : AV}
    (hg : h g = some (.arr v w el (Jn e x.l) false)) (h1 : lenV h u = some (flen y)) (h2 : Jb0 h w u = some (Jn e y.l)) :
    appV h g0 w bytes el (.arr g v a.toNat m.l.length) u = some (.arr g (v + 1) 0 (fapp m y).l.length, upd h g (some (.arr (v + 1) w el (Jn e (fapp m y).l) false))) := by
  obtain ⟨q1, q2, q3, q4, q5⟩ := Jim hs
  simp only [fits, Bool.and_eq_true, flen] at hf
  have hy : y.l ≠ [] := by
    intro h0
    have : flen y = 0 := by unfold flen; rw [h0]; rfl
    simp [ieq, this] at hz
  have hne : Jn e y.l ≠ [] := fun hn => hy ((Jmm y.l hw).1 hn)
  have hle : (a.toNat + m.l.length) * w ≤ (Jn e x.l).length := by
    rw [jn (e := e), q5]
    exact Nat.mul_le_mul_right w (by omega)
  have hres : ∀ c, c = Jn e m.l → some (AV.arr g (v + 1) 0 (m.l.length + (flen y).toNat), upd h g (some (.arr (v + 1) w el (c ++ Jn e y.l) false))) = some (.arr g (v + 1) 0 (fapp m y).l.length, upd h g (some (.arr (v + 1) w el (Jn e (fapp m y).l) false))) := by
    intro c hc
    rw [hc, Jmk, List.length_append, show Jn e (m.l ++ y.l) = Jn e m.l ++ Jn e y.l from by simp [Jn]]
    simp [flen]
  have hfit : (m.l.length + flen y) * bytes ≤ room ∧ ((m.l.length : Int) + flen y) ≤ 9223372036854775807 := ⟨of_decide_eq_true hf.1, of_decide_eq_true hf.2⟩
  simp only [appV, h1, h2, hg]
  by_cases ht : (a.toNat + m.l.length) * w = (Jn e x.l).length
  · rw [if_pos ⟨trivial, trivial, trivial, ht⟩, if_neg hne, if_pos hfit]
    refine hres _ ?_
    rw [← Jbd (e := e) hs]
    unfold cut
    rw [List.take_of_length_le]
    rw [List.length_drop]
    rw [Nat.add_mul] at ht
    omega
  · rw [if_neg (fun q => ht q.2.2.2), if_pos ⟨trivial, trivial, trivial, hle⟩, if_neg hne, if_pos hfit]
    exact hres _ (Jbd (e := e) hs)
theorem app_cut0 {x m y : FS α} {a b : Int} (hs : fsl x a b = some m) (hz : ieq (flen y) 0 = true) (g0 bytes : Nat) {h : Heap} {g v : Nat} {el : TypeId} {u : AV}
    (hg : h g = some (.arr v w el (Jn e x.l) false)) (h1 : lenV h u = some (flen y)) (h2 : Jb0 h w u = some (Jn e y.l)) :
    appV h g0 w bytes el (.arr g v a.toNat m.l.length) u = some (.arr g v a.toNat m.l.length, h) := by
  obtain ⟨q1, q2, q3, q4, q5⟩ := Jim hs
  have hy : y.l = [] := by
    have : flen y = 0 := by simpa [ieq] using hz
    unfold flen at this
    exact List.length_eq_zero_iff.1 (by omega)
  have hne : Jn e y.l = [] := by rw [hy]; rfl
  have hle : (a.toNat + m.l.length) * w ≤ (Jn e x.l).length := by
    rw [jn (e := e), q5]
    exact Nat.mul_le_mul_right w (by omega)
  simp only [appV, h1, h2, hg]
  by_cases ht : (a.toNat + m.l.length) * w = (Jn e x.l).length
  · rw [if_pos ⟨trivial, trivial, trivial, ht⟩, if_pos hne]
  · rw [if_neg (fun q => ht q.2.2.2), if_pos ⟨trivial, trivial, trivial, hle⟩, if_pos hne]
theorem Jjk {x m y : FS α} {a b c d : Int} (hs : fsl x a b = some m) (hy : fsl x c d = some y) {bytes : Nat} (hf : fits bytes (flen m + flen y) = true) (hz : ieq (flen y) 0 = false) (hw : 0 < w) (g0 : Nat) {h : Heap} {g v : Nat} {el : TypeId}
    (hg : h g = some (.arr v w el (Jn e x.l) false)) :
    appV h g0 w bytes el (.arr g v a.toNat m.l.length) (.arr g v c.toNat y.l.length) = some (.arr g (v + 1) 0 (fapp m y).l.length, upd h g (some (.arr (v + 1) w el (Jn e (fapp m y).l) false))) :=
  app_cut (e := e) hs hf hz hw g0 hg (by simp [lenV, Jas, hg, flen]) (Jme (e := e) hy hg)
theorem Jhz {x m y : FS α} {a b c d : Int} (hs : fsl x a b = some m) (hy : fsl x c d = some y) (hz : ieq (flen y) 0 = true) (g0 bytes : Nat) {h : Heap} {g v : Nat} {el : TypeId}
    (hg : h g = some (.arr v w el (Jn e x.l) false)) :
    appV h g0 w bytes el (.arr g v a.toNat m.l.length) (.arr g v c.toNat y.l.length) = some (.arr g v a.toNat m.l.length, h) :=
  app_cut0 (e := e) hs hz g0 bytes hg (by simp [lenV, Jas, hg, flen]) (Jme (e := e) hy hg)
theorem Jh2 {m y : FS α} (hz : ieq (flen y) 0 = true) : fapp m y = flst m := by
  have hy : y.l = [] := by
    have : flen y = 0 := by simpa [ieq] using hz
    unfold flen at this
    exact List.length_eq_zero_iff.1 (by omega)
  unfold fapp flst
  rw [hy, List.append_nil]
end
/-- An array that was a variable, sliced whole. -/
theorem Jy7 (h : Heap) (n esz g v : Nat) : Jk1 h n esz (.ptr g v 0) = Js5 g v n esz (h g) := rfl
theorem Jxi (g ver n esz v e : Nat) (t : TypeId) (c : List AV) (z : Bool) : Js5 g ver n esz (some (.arr v e t c z)) = if ver = v ∧ esz = e ∧ c.length = n * esz then some (.arr g ver 0 n) else none := rfl
/-- Is it nil? -/
def fnl {α : Type} : FS α → Bool
  | .nil => true
  | .lst _ => false
theorem fnl_nil {α : Type} : fnl (FS.nil : FS α) = true := rfl
theorem fnl_lst {α : Type} (l : List α) : fnl (FS.lst l) = false := rfl
theorem Jwm {α : Type} (x : FS α) (a : α) : fnl (Zy x a) = false := rfl
theorem fnl_fset {α : Type} (x : FS α) (i : Int) (a : α) : fnl (fset x i a) = false := rfl
attribute [simp] Jy7 Jxi fnl_nil fnl_lst Jwm fnl_fset
/-! Maps. -/
class KeyOK {K : Type} (ag : outParam Bool) (sh : outParam (List Bool)) (ek : K → AV) (q : outParam (K → K → Bool)) : Prop where
  eq : ∀ a b, eqV ag sh (ek a) (ek b) = some (q a b)
  nm : ∀ a, (ek a).noNm = true
class ValOK {V : Type} (ev : V → AV) : Prop where
  nm : ∀ v, (ev v).noNm = true
def encM {K V : Type} (ek : K → AV) (ev : V → AV) (es : List (K × V)) : List (AV × AV) := es.map fun p => (ek p.1, ev p.2)
section
variable {K V : Type}
def mpos (q : K → K → Bool) (k : K) : Nat → List (K × V) → Option Nat
  | _, [] => none
  | i, p :: r => if q k p.1 = true then some i else mpos q k (i + 1) r
def mget (q : K → K → Bool) (es : List (K × V)) (k : K) (z : V) : V := match mpos q k 0 es with
  | some j => (match es[j]? with | some p => p.2 | none => z)
  | none => z
def mhas (q : K → K → Bool) (es : List (K × V)) (k : K) : Bool := (mpos q k 0 es).isSome
def mset (q : K → K → Bool) (es : List (K × V)) (k : K) (v : V) : List (K × V) := match mpos q k 0 es with
  | some j => es.set j (k, v)
  | none => es ++ [(k, v)]
def mdel (q : K → K → Bool) (es : List (K × V)) (k : K) : List (K × V) := match mpos q k 0 es with
  | some j => es.eraseIdx j
  | none => es
def mlen (es : List (K × V)) : Int := es.length
variable {ag : Bool} {sh : List Bool} {ek : K → AV} {q : K → K → Bool} [hK : KeyOK ag sh ek q] {ev : V → AV} [hV : ValOK ev]
include hK
theorem Jjf (k : K) : ∀ (es : List (K × V)) (i : Nat), posM ag sh (ek k) i (encM ek ev es) = some (mpos q k i es)
  | [], i => rfl
  | p :: r, i => by
    show posM ag sh (ek k) i ((ek p.1, ev p.2) :: encM ek ev r) = _
    simp only [posM, mpos, hK.eq]
    cases q k p.1 with
    | true => rfl
    | false => exact Jjf k r (i + 1)
theorem Jkv (k : K) : Jn7 ag sh (ek k) = true := by unfold Jn7; rw [hK.eq]; rfl
omit hK in
theorem Jxz (es : List (K × V)) (z : V) (o : Option Nat) : atM (encM ek ev es) (ev z) o = ev (match o with | some j => (match es[j]? with | some p => p.2 | none => z) | none => z) := by
  cases o with
  | none => rfl
  | some j =>
    simp only [atM, encM, List.getElem?_map]
    cases es[j]? <;> rfl
theorem look_enc (es : List (K × V)) (k : K) (z : V) : Jm2 false ag sh (ev z) (ek k) (some (encM ek ev es)) = some (ev (mget q es k z)) := by
  simp only [Jm2, Jkv, Jjf, if_true, Jwz, Jxz, Bool.false_eq_true, if_false]
  rfl
theorem Jms (es : List (K × V)) (k : K) (z : V) : Jm2 true ag sh (ev z) (ek k) (some (encM ek ev es)) = some (.tup [ev (mget q es k z), .bool (mhas q es k)]) := by
  simp only [Jm2, Jkv, Jjf, if_true, Jwz, Jxz]
  rfl
theorem Jzw {h : Heap} {g ver : Nat} {es : List (K × V)} (hg : h g = some (.map ver (encM ek ev es) false)) (k : K) (v : V) : setV h ag sh (ek k) (ev v) (.map g ver) = some (upd h g (some (.map ver (encM ek ev (mset q es k v)) false))) := by
  have hc : curM h g ver = some (encM ek ev es) := by simp [curM, hg]
  simp only [setV, hc, Jkv, if_true, Jjf, setE, mset]
  cases mpos q k 0 es with
  | none => simp [putM, encM]
  | some j => simp [putM, encM, List.map_set]
omit hK in
theorem es_mpr (h : Heap) (es : List (K × V)) : esOf h (.mpr (es.map fun p => ek p.1) (es.map fun p => ev p.2)) = some (encM ek ev es) := by
  simp only [esOf, encM]
  congr 1
  induction es with
  | nil => rfl
  | cons p r ih => simp [List.zip_cons_cons, ih]
omit hK in
include hV in
theorem Jx2 (es : List (K × V)) : (encM ek ev es).all (fun p => p.2.noNm) = true := by
  rw [List.all_eq_true]
  intro p hp
  simp only [encM, List.mem_map] at hp
  obtain ⟨x, -, rfl⟩ := hp
  exact hV.nm x.2
omit hK in
include hV in
theorem renE_enc (h : Heap) (tb : List Win) (es : List (K × V)) : renE h tb (encM ek ev es) = encM ek ev es := by unfold renE; rw [if_pos (Jx2 es)]
/-- A map that is handed out. -/
def Jgt (ek : K → AV) (ev : V → AV) (es : List (K × V)) : AV := .mpr (es.map fun p => ek p.1) (es.map fun p => ev p.2)
omit hK in
include hV in
theorem Jvq (k : Nat) {h : Heap} {g ver : Nat} {es : List (K × V)} (hg : h g = some (.map ver (encM ek ev es) false)) : snap h (k + 1) (.map g ver) = some (Jgt ek ev es, [g]) := by
  simp only [snap, hg]
  rw [if_pos ⟨trivial, Jx2 es⟩]
  simp [Jgt, encM, List.map_map, Function.comp_def]
omit hK in
include hV in
theorem J0s {h : Heap} {g ver : Nat} {es : List (K × V)} (hg : h g = some (.map ver (encM ek ev es) false)) : snap h depth (.map g ver) = some (Jgt ek ev es, [g]) := Jvq 7 hg
omit hK in
theorem es_MP (h : Heap) (es : List (K × V)) : esOf h (Jgt ek ev es) = some (encM ek ev es) := es_mpr h es
omit hK in
theorem ren_MP (h : Heap) (tb : List Win) (es : List (K × V)) : ren h tb (Jgt ek ev es) = Jgt ek ev es := rfl
omit hK in
theorem addS_MP (h : Heap) (c : Bool) (tb : List Win) (k : Nat) (es : List (K × V)) : addS h c tb k (Jgt ek ev es) = tb := rfl
omit hK in
theorem flat_MP (es : List (K × V)) : AV.flat (Jgt ek ev es) = true := rfl
omit hK in
theorem cv_MP (es : List (K × V)) : AV.cells (Jgt ek ev es) = some [Jgt ek ev es] := rfl
end
/-! Arrays. -/
def aOff (o esz : Nat) (i : Int) : Nat := o + i.toNat * esz
def inB (i : Int) (n : Nat) : Bool := decide (0 ≤ i) && decide (i < n)
theorem Jql {i : Int} {n : Nat} : inB i n = true ↔ 0 ≤ i ∧ i < n := by simp [inB]
theorem idx_in {n : Nat} {i : Int} (hi : inB i n = true) (w : Nat) (ag : Bool) (l : List AV) (k : IntKind) : idxV n w ag (.agg l) (.int k i) = pack ag l (aOff 0 w i) w := by
  obtain ⟨h1, h2⟩ := Jql.1 hi
  simp only [idxV, aOff, Nat.zero_add]
  rw [if_pos ⟨h1, h2⟩]
theorem Jy4 (ag : Bool) (l : List AV) (k n : Nat) (hn : 0 < n) : pack ag (l.drop k) 0 n = pack ag l k n := by
  unfold pack
  by_cases hk : k + n ≤ l.length
  · rw [if_pos hk, if_pos (by rw [List.length_drop]; omega)]
    cases ag with
    | true => simp [cut]
    | false => simp [List.getElem?_drop]
  · rw [if_neg hk, if_neg (by rw [List.length_drop]; omega)]
section
variable {α : Type} {w : Nat} {e : α → List AV} [hE : EncOK w e]
include hE
theorem pack_mid {l : List α} {i : Int} {a : α} (hl : l[i.toNat]? = some a) (P Q : List AV) (hw : 0 < w) (ag : Bool) : pack ag (P ++ (Jn e l ++ Q)) (aOff P.length w i) w = pack ag (e a) 0 w := by
  have hs := Jg1 (e := e) hl
  have hlt := (List.getElem?_eq_some_iff.1 hl).1
  have hlen : (Jn e (l.take i.toNat)).length = i.toNat * w := by rw [jn (e := e), List.length_take, Nat.min_eq_left (by omega)]
  have e1 : P ++ (Jn e l ++ Q) = (P ++ Jn e (l.take i.toNat)) ++ (e a ++ (Jn e (l.drop (i.toNat + 1)) ++ Q)) := by rw [hs]; simp only [List.append_assoc]
  have e2 : aOff P.length w i = (P ++ Jn e (l.take i.toNat)).length := by rw [List.length_append, hlen]; rfl
  rw [e1, e2, ← Jy4 _ _ _ _ hw, List.drop_left]
  have hex := hE.len a
  have h1 : 0 + w ≤ (e a ++ (Jn e (l.drop (i.toNat + 1)) ++ Q)).length := by rw [List.length_append, hex]; omega
  have h2 : 0 + w ≤ (e a).length := by rw [hex]; omega
  unfold pack
  rw [if_pos h1, if_pos h2]
  cases ag with
  | true => simp only [if_true, cut, List.drop_zero]; rw [List.take_append_of_le_length (by omega)]
  | false => simp only [Bool.false_eq_true, if_false]; rw [List.getElem?_append_left (by omega)]
end
/-- A slice is appended to a row or to nil. -/
def fappn {α : Type} (x y : FS α) : FS α := match x with
  | .nil => fnil y
  | .lst l => .lst (l ++ y.l)
section
variable {α : Type}
theorem J3 : flen (FS.nil : FS α) = 0 := rfl
theorem Jbj (i : Int) : fget (FS.nil : FS α) i = none := by
  unfold fget getL
  split
  · simp [FS.l]
  · rfl
theorem Js6 (x : FS α) (a : α) : flst (Zy x a) = Zy x a := rfl
theorem Juy (x y : FS α) : flst (fapp x y) = fapp x y := rfl
theorem Jyw (x : FS α) (i : Int) (a : α) : flst (fset x i a) = fset x i a := rfl
theorem Jyg (z : α) (n : Int) : flst (frep z n) = frep z n := rfl
theorem Ju7 (l : List α) : flst (flit l) = flit l := rfl
theorem flst_lst (l : List α) : flst (FS.lst l) = FS.lst l := rfl
theorem Jzu (x : FS α) : flst (flst x) = flst x := rfl
end
/-- Nil, or a row. -/
def Jab {α β : Type} (x : FS α) (a : β) (f : FS α → β) : β := match x with
  | .nil => a
  | .lst l => f (.lst l)
section
variable {α β : Type} (a : β) (f : FS α → β)
theorem Jj : Jab (FS.nil : FS α) a f = a := rfl
theorem Ji (l : List α) : Jab (FS.lst l) a f = f (FS.lst l) := rfl
theorem Jm (x : FS α) (v : α) : Jab (Zy x v) a f = f (Zy x v) := rfl
theorem Jw (x y : FS α) : Jab (fapp x y) a f = f (fapp x y) := rfl
theorem Jt (x : FS α) (i : Int) (v : α) : Jab (fset x i v) a f = f (fset x i v) := rfl
theorem Ju (z : α) (n : Int) : Jab (frep z n) a f = f (frep z n) := rfl
theorem Jv (l : List α) : Jab (flit l) a f = f (flit l) := rfl
theorem Js (x : FS α) : Jab (flst x) a f = f (flst x) := rfl
end
theorem mkM_enc {K V : Type} {ek : K → AV} {ev : V → AV} (v : Nat) (z : Bool) : AObj.map v [] z = .map v (encM ek ev ([] : List (K × V))) z := rfl
theorem Jm3 (h : Heap) (g v : Nat) : esOf h (.map g v) = curM h g v := rfl
section
variable {h : Heap} {ns : List Nat}
theorem Jwn : Jgv h [] = some ([], []) := rfl
theorem Jr3 (v : AV) (r : List AV) : Jgv h (v :: r) = Jlh (qarg h v) (Jgv h r) := rfl
theorem Jv5 : Jh6 h [] = some ([], []) := rfl
theorem Jsj (v : AV) (r : List AV) : Jh6 h (v :: r) = Jlh (Jfj h v) (Jh6 h r) := rfl
theorem Js0 (u : AV) (ns : List Nat) (us : List AV) (ms : List Nat) : Jlh (some (u, ns)) (some (us, ms)) = some (u :: us, ns ++ ms) := rfl
theorem qarg_fn (f : FuncId) (caps : List AV) : qarg h (.fn f caps) = qfn f (Jh6 h caps) := rfl
theorem qfn_some (f : FuncId) (us : List AV) (ns : List Nat) : qfn f (some (us, ns)) = some (.fn f us, ns) := rfl
theorem qarg_ptr (g v o : Nat) : qarg h (.ptr g v o) = qbox h g v o (h g) := rfl
theorem Ju3 (g v o : Nat) : Jfj h (.ptr g v o) = qbox h g v o (h g) := rfl
theorem qbox_box (g ver off v : Nat) (cells : List AV) : qbox h g ver off (some (.box v cells)) = if v = ver then (if cells.all AV.flat = true then some (.rptr (cells.drop off), [g]) else Jsw off g (cells.mapM (snap h depth))) else none := rfl
theorem Jui (v : AV) (hv : v.flat = true) : qarg h v = some (v, []) := by
  cases v <;> first | rfl | cases hv
theorem Jsu (v : AV) (hv : v.flat = true) : Jfj h v = some (v, []) := by
  cases v <;> first | rfl | cases hv
theorem Jt7 (l : List AV) : AV.flat (.rptr l) = true := rfl
theorem cv_rptr (l : List AV) : AV.cells (.rptr l) = some [.rptr l] := rfl
theorem qarg_int (k : IntKind) (n : Int) : qarg h (.int k n) = some (.int k n, []) := rfl
theorem Jv8 (b : Bool) : qarg h (.bool b) = some (.bool b, []) := rfl
theorem qarg_str (b : ByteArray) : qarg h (.str b) = some (.str b, []) := rfl
theorem Jvw : qarg h .nils = some (.nils, []) := rfl
theorem Jxu (l : List AV) : qarg h (.rptr l) = some (.rptr l, []) := rfl
theorem Jzy (k : IntKind) (n : Int) : Jfj h (.int k n) = some (.int k n, []) := rfl
theorem Jr1 (b : Bool) : Jfj h (.bool b) = some (.bool b, []) := rfl
theorem Jse : Jfj h .nils = some (.nils, []) := rfl
theorem Jtq (l : List AV) : Jfj h (.rptr l) = some (.rptr l, []) := rfl
theorem qarg_agg (l : List AV) (hl : l.all AV.flat = true) : qarg h (.agg l) = some (.agg l, []) := Jmy h l hl
theorem Jwf (l : List AV) (hl : l.all AV.flat = true) : Jfj h (.agg l) = some (.agg l, []) := Jmy h l hl
def fnS (f : FuncId) : Option (List (AV × List Nat)) → Option (AV × List Nat)
  | some ps => some (.fn f (ps.map (·.1)), ps.flatMap (·.2))
  | none => none
theorem bszV_ok {α : Type} {e : α → List AV} (H : Heap) (g0 n w : Nat) (el : TypeId) (l : List α) (c : List AV) (hn : l.length = n) (hf : c.all AV.flat = true) (hc : c = Jn e l) (hl : c.length = n * w) :
    bszV H g0 n w el (some c) = some (encF e (flit l), upd H g0 (some (.arr (K7 H g0) w el c true))) := by
  subst hc hn
  exact if_pos ⟨hf, hl⟩
theorem snap_fnE (f : FuncId) (caps : List AV) : snap h depth (.fn f caps) = fnS f (caps.mapM (snap h 7)) := rfl
theorem snap_fnD (f : FuncId) (caps : List AV) (hc : caps.all AV.flat = true) : snap h depth (.fn f caps) = some (.fn f caps, []) := by
  have : ∀ l : List AV, l.all AV.flat = true → l.mapM (snap h 7) = some (l.map fun v => (v, [])) := fun l hl => by
    induction l with
    | nil => rfl
    | cons v r ih =>
      simp only [List.all_cons, Bool.and_eq_true] at hl
      rw [List.mapM_cons, Jf8 h 6 v hl.1, ih hl.2]
      rfl
  rw [snap_fnE, this caps hc]
  simp [fnS, List.map_map, Function.comp_def, List.flatMap]
end
attribute [simp] renE_enc Jt7 cv_rptr snap_fnD qarg_int Jv8 qarg_str Jvw Jxu Jzy Jr1 Jse Jtq Jui Jsu qarg_agg Jwf Jwn Jr3 Jv5 Jsj Js0 qarg_fn qfn_some qarg_ptr Ju3 qbox_box J8 delR
  Jj Ji Jm Jw Jt Ju Jv Js Js6 Juy Jyw Jyg Ju7 flst_lst Jzu lenV_row ren_MP addS_MP flat_MP cv_MP
end Go.Vv
