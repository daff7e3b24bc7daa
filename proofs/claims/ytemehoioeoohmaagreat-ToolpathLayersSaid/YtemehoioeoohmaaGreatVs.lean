/- Rules for walking typed functions: rows as slices, views, maps, arrays, pointers that are read out, calls that share. Conditions: none. -/
import Derived.Test.YtemehoioeoohmaaGreatVr
namespace Go.Vv
open Go
open Nat renaming mul_le_mul_right → Aa
open List renaming length_drop → Ab, length_append → Ac, length_eq_zero_iff → Ad
set_option linter.unusedSectionVars false
section
variable {α : Type}
def Yy (x : FS α) (a : α) : FS α := .lst (x.l ++ [a])
def fapp (x y : FS α) : FS α := .lst (x.l ++ y.l)
def fset (x : FS α) (i : Int) (a : α) : FS α := .lst (x.l.set i.toNat a)
def frep (z : α) (n : Int) : FS α := .lst (List.replicate n.toNat z)
def flit (l : List α) : FS α := .lst l
def flst (x : FS α) : FS α := .lst x.l
def fnil (x : FS α) : FS α := if x.l = [] then .nil else .lst x.l
theorem jt (x : FS α) (a : α) : (Yy x a).l = x.l ++ [a] := rfl
theorem Jhb (x y : FS α) : (fapp x y).l = x.l ++ y.l := rfl
theorem Jjp (x : FS α) (i : Int) (a : α) : (fset x i a).l = x.l.set i.toNat a := rfl
theorem J5 (x : FS α) (i : Int) (a : α) : (fset x i a).l.length = x.l.length := by rw [Jjp, List.length_set]
theorem Je1 (l : List α) : (flit l).l = l := rfl
theorem Jkr (x : FS α) : (flst x).l = x.l := rfl
end
def J6 {α β : Type} (x : Option α) (f : α → Option β) : Option β := match x with
 | none => none
 | some v => f v
theorem Jyl {α β : Type} (f : α → Option β) : J6 none f = none := rfl
theorem Je {α β : Type} (v : α) (f : α → Option β) : J6 (some v) f = f v := rfl
attribute [simp] Jyl Je
def quoO (k : IntKind) (a b : Int) : Option Int := if ieq b 0 = true then none else some (iquo k a b)
def remO (a b : Int) : Option Int := if ieq b 0 = true then none else some (irem a b)
def Jt1 {α : Type} : FS α → Option Bool
 | .nil => some true
 | .lst [] => none
 | .lst (_ :: _) => some false
theorem J0k (h : Heap) : Jkq h .nils = some true := rfl
theorem J4d (h : Heap) (g v o n : Nat) : Jkq h (.arr g v o n) = if Jek h g v = true then some false else none := rfl
attribute [simp] J0k J4d
theorem J2c {α : Type} {e : α → List AV} {x : FS α} {b : Bool} (hx : Jt1 x = some b) (h : Heap) : Jkq h (encF e x) = some b := by
 cases x with
 | nil => cases hx; rfl
 | lst l =>
  cases l with
  | nil => cases hx
  | cons a l => cases hx; rfl
section
variable {α : Type} {w : Nat} {e : α → List AV} [hE : EncOK w e]
theorem lenV_row (h : Heap) (g v off : Nat) (x : FS α) : lenV h (.arr g v off x.l.length) = if Jek h g v = true then some (flen x) else none := rfl
theorem Kq {h : Heap} {g v : Nat} {x : FS α} {el : TypeId} {fz : Bool} (e1 : h g = some (.arr v w el (Jn e x.l) fz)) :
  snap h depth (.arr g v 0 x.l.length) = some (encF e (flst x), [g]) := Jts 7 e1
theorem Jfd {h : Heap} {g v : Nat} {x : FS α} {el : TypeId} {fz : Bool} (e1 : h g = some (.arr v w el (Jn e x.l) fz)) :
  snap h 7 (.arr g v 0 x.l.length) = some (encF e (flst x), [g]) := Jts 6 e1
theorem Xm {x : FS α} {i : Int} {a : α} (hg : fget x i = some a) (h : Heap) (k : IntKind) (g v : Nat) : Jij h w (.arr g v 0 x.l.length) (.int k i) = if curA h g v w = true then some (.ptr g v (pIdx w i)) else none := J7j (l := x.l) hg h k g v
theorem Jpa {x : FS α} {i : Int} {a : α} (hg : fget x i = some a) (ag : Bool) (off n : Nat) (ho : off + n ≤ w) (hn0 : 0 < n) : pack ag (Jn e x.l) (pIdx w i + off) n = pack ag (e a) off n := Jwv (e := e) (l := x.l) hg ag off n ho hn0
theorem Zb {x : FS α} {i : Int} {a : α} (hg : fget x i = some a) (ag : Bool) (n : Nat) (ho : n ≤ w) (hn0 : 0 < n) : pack ag (Jn e x.l) (pIdx w i) n = pack ag (e a) 0 n := J5i (e := e) (l := x.l) hg ag n ho hn0
theorem Js9 {x : FS α} {i : Int} {a y : α} (hg : fget x i = some a) {off : Nat} {c : List AV} (ho : off + c.length ≤ w) (hy : paste (e a) off c = e y) : paste (Jn e x.l) (pIdx w i + off) c = Jn e (fset x i y).l := Jt2 (e := e) (l := x.l) hg ho hy
theorem Jf9 {x : FS α} {i : Int} {a y : α} (hg : fget x i = some a) {c : List AV} (ho : c.length ≤ w) (hy : paste (e a) 0 c = e y) : paste (Jn e x.l) (pIdx w i) c = Jn e (fset x i y).l := Jy8 (e := e) (l := x.l) hg ho hy
theorem in_row {x : FS α} {i : Int} {a : α} (hg : fget x i = some a) (off n : Nat) (ho : off + n ≤ w) : pIdx w i + off + n ≤ x.l.length * w := in_own (l := x.l) hg off n ho
theorem Jmp {x : FS α} {i : Int} {a : α} (hg : fget x i = some a) (n : Nat) (ho : n ≤ w) : pIdx w i + n ≤ x.l.length * w := in_own0 (l := x.l) hg n ho
theorem Y3 {x : FS α} {a : α} {bytes : Nat} (hf : fits bytes (flen x + 1) = true) (hw : 0 < w) (g0 : Nat) {h : Heap} {g v : Nat} {el : TypeId} {y : AV} (hg : h g = some (.arr v w el (Jn e x.l) false)) (h1 : lenV h y = some 1)
  (h2 : Jfr h w y = some (e a)) : appV h g0 w bytes el (.arr g v 0 x.l.length) y = some (.arr g (v + 1) 0 (Yy x a).l.length, upd h g (some (.arr (v + 1) w el (Jn e (Yy x a).l) false))) := app_one (l := x.l) (x := a) hf hw g0 hg h1 h2
theorem Jdk {a : α} {bytes : Nat} (hf : fits bytes (flen (FS.nil : FS α) + 1) = true) (hw : 0 < w) {h : Heap} {g0 : Nat} {el : TypeId} {y : AV} (hg : h g0 = none) (h1 : lenV h y = some 1) (h2 : Jfr h w y = some (e a)) :
  appV h g0 w bytes el .nils y = some (.arr g0 1 0 (Yy (FS.nil : FS α) a).l.length, upd h g0 (some (.arr 1 w el (Jn e (Yy (FS.nil : FS α) a).l) false))) := app_nil1 (x := a) (show fits bytes 1 = true from hf) hw hg h1 h2
theorem app_rows {x y : FS α} {bytes : Nat} (hf : fits bytes (flen x + flen y) = true) (hw : 0 < w) (g0 : Nat) {h : Heap} {g v : Nat} {el : TypeId} {u : AV} (hg : h g = some (.arr v w el (Jn e x.l) false)) (h1 : lenV h u = some (flen y))
  (h2 : Jfr h w u = some (Jn e y.l)) : appV h g0 w bytes el (.arr g v 0 x.l.length) u = some (.arr g (bump v (flen y)) 0 (fapp x y).l.length, upd h g (some (.arr (bump v (flen y)) w el (Jn e (fapp x y).l) false))) := app_many (l := x.l) (m := y.l) hf hw g0 hg h1 h2
theorem Jar {x y : FS α} {bytes : Nat} (hf : fits bytes (flen x + flen y) = true) (hw : 0 < w) (g0 : Nat) {h : Heap} {g v : Nat} {el : TypeId} (hg : h g = some (.arr v w el (Jn e x.l) false)) :
  appV h g0 w bytes el (.arr g v 0 x.l.length) (encF e y) = some (.arr g (bump v (flen y)) 0 (fapp x y).l.length, upd h g (some (.arr (bump v (flen y)) w el (Jn e (fapp x y).l) false))) :=
 app_rows (e := e) hf hw g0 hg (lenV_F h y) (J6a h y)
theorem mk_row {z : α} {bytes : Nat} {n m : Int} (hok : mkOK bytes n m = true) {h : Heap} {g0 : Nat} (hg : h g0 = none) (el : TypeId) (k k' : IntKind) :
  mkV h g0 w bytes el (e z) (.int k n) (.int k' m) = some (.arr g0 0 0 (frep z n).l.length, upd h g0 (some (.arr 0 w el (Jn e (frep z n).l) false))) := by
 exact mk_own (e := e) (z := z) hok hg el k k'
omit hE in
theorem Jn3 {x m : FS α} {a b : Int} (hs : fsl x a b = some m) : 0 ≤ a ∧ a ≤ b ∧ b ≤ x.l.length ∧ m.l = (x.l.drop a.toNat).take (b - a).toNat ∧ m.l.length = (b - a).toNat := by
 cases x with
 | nil =>
  simp only [fsl] at hs
  split at hs
  ·rename_i hc; cases hs; obtain ⟨rfl, rfl⟩ := hc; simp [FS.l]
  ·cases hs
 | lst l =>
  simp only [fsl] at hs
  split at hs
  ·rename_i hc; cases hs; refine ⟨hc.1, hc.2.1, hc.2.2, rfl, ?_⟩; simp only [FS.l, List.length_take, Ab] at *; omega
  ·cases hs
omit hE in
theorem Jua {x m : FS α} {a b : Int} (hs : fsl x a b = some m) (h : Heap) (k k' : IntKind) (g v : Nat) : Jf2 h w (.arr g v 0 x.l.length) (some (.int k a)) (some (.int k' b)) = if curA h g v w = true then some (.arr g v a.toNat m.l.length) else none := by
 obtain ⟨h1, h2, h3, -, h5⟩ := Jn3 hs
 simp only [Jf2, Jf8, h5, Nat.zero_add]
 by_cases hc : curA h g v w = true
 ·rw [if_pos ⟨h1, h2, h3, hc⟩, if_pos hc]
 ·rw [if_neg (fun hh => hc hh.2.2.2), if_neg hc]
omit hE in
theorem Jhx {x m : FS α} {a : Int} (hs : fsl x a (flen x) = some m) (h : Heap) (k : IntKind) (g v : Nat) : Jf2 h w (.arr g v 0 x.l.length) (some (.int k a)) none = if curA h g v w = true then some (.arr g v a.toNat m.l.length) else none :=
 Jua hs h k .i64 g v
omit hE in
theorem Jkp {x m : FS α} {b : Int} (hs : fsl x 0 b = some m) (h : Heap) (k' : IntKind) (g v : Nat) : Jf2 h w (.arr g v 0 x.l.length) none (some (.int k' b)) = if curA h g v w = true then some (.arr g v 0 m.l.length) else none :=
 Jua hs h .i64 k' g v
omit hE in
theorem Jhj {x m : FS α} {a b : Int} (hs : fsl x a b = some m) (w : Nat) : a.toNat * w ≤ x.l.length * w := by
 obtain ⟨h1, h2, h3, -, -⟩ := Jn3 hs
 exact Aa w (by omega)
theorem Jfi {x m : FS α} {a b : Int} (hs : fsl x a b = some m) : cut (Jn e x.l) (a.toNat * w) (m.l.length * w) = Jn e m.l := by
 obtain ⟨h1, h2, h3, h4, h5⟩ := Jn3 hs
 unfold cut
 rw [Jmb, Jp2, h5, h4]
theorem Jrn {x m : FS α} {a b : Int} (hs : fsl x a b = some m) {h : Heap} {g v : Nat} {el : TypeId} {fz : Bool} (hg : h g = some (.arr v w el (Jn e x.l) fz)) : Jfr h w (.arr g v a.toNat m.l.length) = some (Jn e m.l) := by
 obtain ⟨h1, h2, h3, h4, h5⟩ := Jn3 hs
 simp only [Jfr, hg]
 rw [if_pos ⟨trivial, trivial, by rw [Jb6 (e := e)]; exact Aa w (by omega)⟩, Jfi (e := e) hs]
theorem app_cut {x m y : FS α} {a b : Int} (hs : fsl x a b = some m) {bytes : Nat} (hf : fits bytes (flen m + flen y) = true) (hz : ieq (flen y) 0 = false) (hw : 0 < w) (g0 : Nat) {h : Heap} {g v : Nat} {el : TypeId} {u : AV}
  (hg : h g = some (.arr v w el (Jn e x.l) false)) (h1 : lenV h u = some (flen y)) (h2 : Jfr h w u = some (Jn e y.l)) :
  appV h g0 w bytes el (.arr g v a.toNat m.l.length) u = some (.arr g (v + 1) 0 (fapp m y).l.length, upd h g (some (.arr (v + 1) w el (Jn e (fapp m y).l) false))) := by
 obtain ⟨q1, q2, q3, q4, q5⟩ := Jn3 hs
 simp only [fits, Bool.and_eq_true, flen] at hf
 have hy : y.l ≠ [] := by
  intro h0
  have : flen y = 0 := by unfold flen; rw [h0]; rfl
  simp [ieq, this] at hz
 have hne : Jn e y.l ≠ [] := fun hn => hy ((Jrk y.l hw).1 hn)
 have hle : (a.toNat + m.l.length) * w ≤ (Jn e x.l).length := by
  rw [Jb6 (e := e), q5]
  exact Aa w (by omega)
 have hres : ∀ c, c = Jn e m.l → some (AV.arr g (v + 1) 0 (m.l.length + (flen y).toNat), upd h g (some (.arr (v + 1) w el (c ++ Jn e y.l) false))) = some (.arr g (v + 1) 0 (fapp m y).l.length, upd h g (some (.arr (v + 1) w el (Jn e (fapp m y).l) false))) := by
  intro c hc
  rw [hc, Jhb, Ac, show Jn e (m.l ++ y.l) = Jn e m.l ++ Jn e y.l from by simp [Jn]]
  simp [flen]
 have hfit : (m.l.length + flen y) * bytes ≤ room ∧ ((m.l.length : Int) + flen y) ≤ 9223372036854775807 := ⟨of_decide_eq_true hf.1, of_decide_eq_true hf.2⟩
 simp only [appV, h1, h2, hg]
 by_cases ht : (a.toNat + m.l.length) * w = (Jn e x.l).length
 ·rw [if_pos ⟨trivial, trivial, trivial, ht⟩, if_neg hne, if_pos hfit]
  refine hres _ ?_
  rw [← Jfi (e := e) hs]
  unfold cut
  rw [List.take_of_length_le]
  rw [Ab]
  rw [Nat.add_mul] at ht
  omega
 ·rw [if_neg (fun q => ht q.2.2.2), if_pos ⟨trivial, trivial, trivial, hle⟩, if_neg hne, if_pos hfit]
  exact hres _ (Jfi (e := e) hs)
theorem app_cut0 {x m y : FS α} {a b : Int} (hs : fsl x a b = some m) (hz : ieq (flen y) 0 = true) (g0 bytes : Nat) {h : Heap} {g v : Nat} {el : TypeId} {u : AV}
  (hg : h g = some (.arr v w el (Jn e x.l) false)) (h1 : lenV h u = some (flen y)) (h2 : Jfr h w u = some (Jn e y.l)) :
  appV h g0 w bytes el (.arr g v a.toNat m.l.length) u = some (.arr g v a.toNat m.l.length, h) := by
 obtain ⟨q1, q2, q3, q4, q5⟩ := Jn3 hs
 have hy : y.l = [] := by
  have : flen y = 0 := by simpa [ieq] using hz
  unfold flen at this
  exact Ad.1 (by omega)
 have hne : Jn e y.l = [] := by rw [hy]; rfl
 have hle : (a.toNat + m.l.length) * w ≤ (Jn e x.l).length := by
  rw [Jb6 (e := e), q5]
  exact Aa w (by omega)
 simp only [appV, h1, h2, hg]
 by_cases ht : (a.toNat + m.l.length) * w = (Jn e x.l).length
 ·rw [if_pos ⟨trivial, trivial, trivial, ht⟩, if_pos hne]
 ·rw [if_neg (fun q => ht q.2.2.2), if_pos ⟨trivial, trivial, trivial, hle⟩, if_pos hne]
theorem Jo9 {x m y : FS α} {a b c d : Int} (hs : fsl x a b = some m) (hy : fsl x c d = some y) {bytes : Nat} (hf : fits bytes (flen m + flen y) = true) (hz : ieq (flen y) 0 = false) (hw : 0 < w) (g0 : Nat) {h : Heap} {g v : Nat} {el : TypeId}
  (hg : h g = some (.arr v w el (Jn e x.l) false)) :
  appV h g0 w bytes el (.arr g v a.toNat m.l.length) (.arr g v c.toNat y.l.length) = some (.arr g (v + 1) 0 (fapp m y).l.length, upd h g (some (.arr (v + 1) w el (Jn e (fapp m y).l) false))) :=
 app_cut (e := e) hs hf hz hw g0 hg (by simp [lenV, Jek, hg, flen]) (Jrn (e := e) hy hg)
theorem Jnn {x m y : FS α} {a b c d : Int} (hs : fsl x a b = some m) (hy : fsl x c d = some y) (hz : ieq (flen y) 0 = true) (g0 bytes : Nat) {h : Heap} {g v : Nat} {el : TypeId}
  (hg : h g = some (.arr v w el (Jn e x.l) false)) :
  appV h g0 w bytes el (.arr g v a.toNat m.l.length) (.arr g v c.toNat y.l.length) = some (.arr g v a.toNat m.l.length, h) :=
 app_cut0 (e := e) hs hz g0 bytes hg (by simp [lenV, Jek, hg, flen]) (Jrn (e := e) hy hg)
theorem Jnt {m y : FS α} (hz : ieq (flen y) 0 = true) : fapp m y = flst m := by
 have hy : y.l = [] := by
  have : flen y = 0 := by simpa [ieq] using hz
  unfold flen at this
  exact Ad.1 (by omega)
 unfold fapp flst
 rw [hy, List.append_nil]
end
theorem J1o (h : Heap) (n esz g v : Nat) : Jpo h n esz (.ptr g v 0) = Jyh g v n esz (h g) := rfl
theorem J9w (g ver n esz v e : Nat) (t : TypeId) (c : List AV) (z : Bool) : Jyh g ver n esz (some (.arr v e t c z)) = if ver = v ∧ esz = e ∧ c.length = n * esz then some (.arr g ver 0 n) else none := rfl
def fnl {α : Type} : FS α → Bool
 | .nil => true
 | .lst _ => false
theorem fnl_nil {α : Type} : fnl (FS.nil : FS α) = true := rfl
theorem fnl_lst {α : Type} (l : List α) : fnl (FS.lst l) = false := rfl
theorem J1z {α : Type} (x : FS α) (a : α) : fnl (Yy x a) = false := rfl
theorem fnl_fset {α : Type} (x : FS α) (i : Int) (a : α) : fnl (fset x i a) = false := rfl
attribute [simp] J1o J9w fnl_nil fnl_lst J1z fnl_fset
class KeyOK {K : Type} (ag : outParam Bool) (sh : outParam (List Bool)) (ek : K → AV) (q : outParam (K → K → Bool)) : Prop where
 eq : ∀ a b, eqV ag sh (ek a) (ek b) = some (q a b)
 nm : ∀ a, (ek a).noNm = true
class ValOK {V : Type} (ev : V → AV) : Prop where
 nm : ∀ v, (ev v).noNm = true
def encM {K V : Type} (ek : K → AV) (ev : V → AV) (es : List (K × V)) : List (AV × AV) := es.map fun p => (ek p.1, ev p.2)
section
variable {K V : Type}
def mpos (q : K → K → Bool) (k : K) : Nat → List (K × V) → Option Nat
 | _, [] => none
 | i, p :: r => if q k p.1 = true then some i else mpos q k (i + 1) r
def mget (q : K → K → Bool) (es : List (K × V)) (k : K) (z : V) : V := match mpos q k 0 es with
 | some j => (match es[j]? with | some p => p.2 | none => z)
 | none => z
def mhas (q : K → K → Bool) (es : List (K × V)) (k : K) : Bool := (mpos q k 0 es).isSome
def mset (q : K → K → Bool) (es : List (K × V)) (k : K) (v : V) : List (K × V) := match mpos q k 0 es with
 | some j => es.set j (k, v)
 | none => es ++ [(k, v)]
def mdel (q : K → K → Bool) (es : List (K × V)) (k : K) : List (K × V) := match mpos q k 0 es with
 | some j => es.eraseIdx j
 | none => es
def mlen (es : List (K × V)) : Int := es.length
variable {ag : Bool} {sh : List Bool} {ek : K → AV} {q : K → K → Bool} [hK : KeyOK ag sh ek q] {ev : V → AV} [hV : ValOK ev]
include hK
theorem Jo6 (k : K) : ∀ (es : List (K × V)) (i : Nat), posM ag sh (ek k) i (encM ek ev es) = some (mpos q k i es)
 | [], i => rfl
 | p :: r, i => by
  show posM ag sh (ek k) i ((ek p.1, ev p.2) :: encM ek ev r) = _
  simp only [posM, mpos, hK.eq]
  cases q k p.1 with
  | true => rfl
  | false => exact Jo6 k r (i + 1)
theorem Jpc (k : K) : Juc ag sh (ek k) = true := by unfold Juc; rw [hK.eq]; rfl
omit hK in
theorem J6i (es : List (K × V)) (z : V) (o : Option Nat) : atM (encM ek ev es) (ev z) o = ev (match o with | some j => (match es[j]? with | some p => p.2 | none => z) | none => z) := by
 cases o with
 | none => rfl
 | some j =>
  simp only [atM, encM, List.getElem?_map]
  cases es[j]? <;> rfl
theorem look_enc (es : List (K × V)) (k : K) (z : V) : Jsg false ag sh (ev z) (ek k) (some (encM ek ev es)) = some (ev (mget q es k z)) := by
 simp only [Jsg, Jpc, Jo6, if_true, J8t, J6i, Bool.false_eq_true, if_false]
 rfl
theorem Jr7 (es : List (K × V)) (k : K) (z : V) : Jsg true ag sh (ev z) (ek k) (some (encM ek ev es)) = some (.tup [ev (mget q es k z), .bool (mhas q es k)]) := by
 simp only [Jsg, Jpc, Jo6, if_true, J8t, J6i]
 rfl
theorem J9k {h : Heap} {g ver : Nat} {es : List (K × V)} (hg : h g = some (.map ver (encM ek ev es) false)) (k : K) (v : V) : setV h ag sh (ek k) (ev v) (.map g ver) = some (upd h g (some (.map ver (encM ek ev (mset q es k v)) false))) := by
 have hc : curM h g ver = some (encM ek ev es) := by simp [curM, hg]
 simp only [setV, hc, Jpc, if_true, Jo6, setE, mset]
 cases mpos q k 0 es with
 | none => simp [putM, encM]
 | some j => simp [putM, encM, List.map_set]
omit hK in
theorem es_mpr (h : Heap) (es : List (K × V)) : esOf h (.mpr (es.map fun p => ek p.1) (es.map fun p => ev p.2)) = some (encM ek ev es) := by
 simp only [esOf, encM]
 congr 1
 induction es with
 | nil => rfl
 | cons p r ih => simp [List.zip_cons_cons, ih]
omit hK in
include hV in
theorem J7c (es : List (K × V)) : (encM ek ev es).all (fun p => p.2.noNm) = true := by
 rw [List.all_eq_true]
 intro p hp
 simp only [encM, List.mem_map] at hp
 obtain ⟨x, -, rfl⟩ := hp
 exact hV.nm x.2
omit hK in
include hV in
theorem renE_enc (h : Heap) (tb : List Win) (es : List (K × V)) : renE h tb (encM ek ev es) = encM ek ev es := by unfold renE; rw [if_pos (J7c es)]
def Jmv (ek : K → AV) (ev : V → AV) (es : List (K × V)) : AV := .mpr (es.map fun p => ek p.1) (es.map fun p => ev p.2)
omit hK in
include hV in
theorem J7v (k : Nat) {h : Heap} {g ver : Nat} {es : List (K × V)} (hg : h g = some (.map ver (encM ek ev es) false)) : snap h (k + 1) (.map g ver) = some (Jmv ek ev es, [g]) := by
 simp only [snap, hg]
 rw [if_pos ⟨trivial, J7c es⟩]
 simp [Jmv, encM, List.map_map, Function.comp_def]
omit hK in
include hV in
theorem J78 {h : Heap} {g ver : Nat} {es : List (K × V)} (hg : h g = some (.map ver (encM ek ev es) false)) : snap h depth (.map g ver) = some (Jmv ek ev es, [g]) := J7v 7 hg
omit hK in
theorem es_MP (h : Heap) (es : List (K × V)) : esOf h (Jmv ek ev es) = some (encM ek ev es) := es_mpr h es
omit hK in
theorem ren_MP (h : Heap) (tb : List Win) (es : List (K × V)) : ren h tb (Jmv ek ev es) = Jmv ek ev es := rfl
omit hK in
theorem addS_MP (h : Heap) (c : Bool) (tb : List Win) (k : Nat) (es : List (K × V)) : addS h c tb k (Jmv ek ev es) = tb := rfl
omit hK in
theorem flat_MP (es : List (K × V)) : AV.flat (Jmv ek ev es) = true := rfl
omit hK in
theorem cv_MP (es : List (K × V)) : AV.cells (Jmv ek ev es) = some [Jmv ek ev es] := rfl
end
def aOff (o esz : Nat) (i : Int) : Nat := o + i.toNat * esz
def inB (i : Int) (n : Nat) : Bool := decide (0 ≤ i) && decide (i < n)
theorem Jvx {i : Int} {n : Nat} : inB i n = true ↔ 0 ≤ i ∧ i < n := by simp [inB]
theorem idx_in {n : Nat} {i : Int} (hi : inB i n = true) (w : Nat) (ag : Bool) (l : List AV) (k : IntKind) : idxV n w ag (.agg l) (.int k i) = pack ag l (aOff 0 w i) w := by
 obtain ⟨h1, h2⟩ := Jvx.1 hi
 simp only [idxV, aOff, Nat.zero_add]
 rw [if_pos ⟨h1, h2⟩]
theorem J5a (ag : Bool) (l : List AV) (k n : Nat) (hn : 0 < n) : pack ag (l.drop k) 0 n = pack ag l k n := by
 unfold pack
 by_cases hk : k + n ≤ l.length
 ·rw [if_pos hk, if_pos (by rw [Ab]; omega)]
  cases ag with
  | true => simp [cut]
  | false => simp [List.getElem?_drop]
 ·rw [if_neg hk, if_neg (by rw [Ab]; omega)]
section
variable {α : Type} {w : Nat} {e : α → List AV} [hE : EncOK w e]
include hE
theorem pack_mid {l : List α} {i : Int} {a : α} (hl : l[i.toNat]? = some a) (P Q : List AV) (hw : 0 < w) (ag : Bool) : pack ag (P ++ (Jn e l ++ Q)) (aOff P.length w i) w = pack ag (e a) 0 w := by
 have hs := Jmt (e := e) hl
 have hlt := (List.getElem?_eq_some_iff.1 hl).1
 have hlen : (Jn e (l.take i.toNat)).length = i.toNat * w := by rw [Jb6 (e := e), List.length_take, Nat.min_eq_left (by omega)]
 have e1 : P ++ (Jn e l ++ Q) = (P ++ Jn e (l.take i.toNat)) ++ (e a ++ (Jn e (l.drop (i.toNat + 1)) ++ Q)) := by rw [hs]; simp only [List.append_assoc]
 have e2 : aOff P.length w i = (P ++ Jn e (l.take i.toNat)).length := by rw [Ac, hlen]; rfl
 rw [e1, e2, ← J5a _ _ _ _ hw, List.drop_left]
 have hex := hE.len a
 have h1 : 0 + w ≤ (e a ++ (Jn e (l.drop (i.toNat + 1)) ++ Q)).length := by rw [Ac, hex]; omega
 have h2 : 0 + w ≤ (e a).length := by rw [hex]; omega
 unfold pack
 rw [if_pos h1, if_pos h2]
 cases ag with
 | true => simp only [if_true, cut, List.drop_zero]; rw [List.take_append_of_le_length (by omega)]
 | false => simp only [Bool.false_eq_true, if_false]; rw [List.getElem?_append_left (by omega)]
end
def fappn {α : Type} (x y : FS α) : FS α := match x with
 | .nil => fnil y
 | .lst l => .lst (l ++ y.l)
section
variable {α : Type}
theorem J37 (l : List α) (y : FS α) : fappn (FS.lst l) y = fapp (FS.lst l) y := rfl
theorem Jx : flen (FS.nil : FS α) = 0 := rfl
theorem Jez (i : Int) : fget (FS.nil : FS α) i = none := by
 unfold fget getL
 split
 ·simp [FS.l]
 ·rfl
theorem Jzn (x : FS α) (a : α) : flst (Yy x a) = Yy x a := rfl
theorem J5q (x y : FS α) : flst (fapp x y) = fapp x y := rfl
theorem J0v (x : FS α) (i : Int) (a : α) : flst (fset x i a) = fset x i a := rfl
theorem J77 (z : α) (n : Int) : flst (frep z n) = frep z n := rfl
theorem J6k (l : List α) : flst (flit l) = flit l := rfl
theorem flst_lst (l : List α) : flst (FS.lst l) = FS.lst l := rfl
theorem J49 (x : FS α) : flst (flst x) = flst x := rfl
end
theorem oS {α β : Type} {x : Option α} {f : α → Option β} {r : β} (h : J6 x f = some r) : ∃ v, x = some v ∧ f v = some r := by
 cases x with
 | none => cases h
 | some v => exact ⟨v, rfl, h⟩
theorem ifS {β : Type} {p : Prop} [Decidable p] {A : Option β} {r : β} (h : (if p then A else none) = some r) : p ∧ A = some r := by
 split at h
 ·exact ⟨‹_›, h⟩
 ·cases h
theorem ifN {β : Type} {b : Bool} {A : Option β} {r : β} (h : (if b = true then none else A) = some r) : b = false ∧ A = some r := by
 cases b with
 | true => cases h
 | false => exact ⟨rfl, h⟩
theorem ifC {β : Type} {b : Bool} {A B : Option β} {r : β} (h : (if b = true then A else B) = some r) : (b = true ∧ A = some r) ∨ (b = false ∧ B = some r) := by
 cases b with
 | true => exact .inl ⟨rfl, h⟩
 | false => exact .inr ⟨rfl, h⟩
def Jat {α β : Type} (x : FS α) (a : β) (f : FS α → β) : β := match x with
 | .nil => a
 | .lst l => f (.lst l)
section
variable {α β : Type} (a : β) (f : FS α → β)
theorem Jg : Jat (FS.nil : FS α) a f = a := rfl
theorem Jh (l : List α) : Jat (FS.lst l) a f = f (FS.lst l) := rfl
theorem Jk (x : FS α) (v : α) : Jat (Yy x v) a f = f (Yy x v) := rfl
theorem Jr (x y : FS α) : Jat (fapp x y) a f = f (fapp x y) := rfl
theorem Ju (x : FS α) (i : Int) (v : α) : Jat (fset x i v) a f = f (fset x i v) := rfl
theorem Jt (z : α) (n : Int) : Jat (frep z n) a f = f (frep z n) := rfl
theorem Js (l : List α) : Jat (flit l) a f = f (flit l) := rfl
theorem Jv (x : FS α) : Jat (flst x) a f = f (flst x) := rfl
end
theorem mkM_enc {K V : Type} {ek : K → AV} {ev : V → AV} (v : Nat) (z : Bool) : AObj.map v [] z = .map v (encM ek ev ([] : List (K × V))) z := rfl
theorem Jxo (h : Heap) (g v : Nat) : esOf h (.map g v) = curM h g v := rfl
section
variable {h : Heap} {ns : List Nat}
theorem J6n : Jmr h [] = some ([], []) := rfl
theorem Jyk (v : AV) (r : List AV) : Jmr h (v :: r) = Jq5 (qarg h v) (Jmr h r) := rfl
theorem J62 : Joi h [] = some ([], []) := rfl
theorem J0l (v : AV) (r : List AV) : Joi h (v :: r) = Jq5 (Jli h v) (Joi h r) := rfl
theorem Jzg (u : AV) (ns : List Nat) (us : List AV) (ms : List Nat) : Jq5 (some (u, ns)) (some (us, ms)) = some (u :: us, ns ++ ms) := rfl
theorem qarg_fn (f : FuncId) (caps : List AV) : qarg h (.fn f caps) = qfn f (Joi h caps) := rfl
theorem qfn_some (f : FuncId) (us : List AV) (ns : List Nat) : qfn f (some (us, ns)) = some (.fn f us, ns) := rfl
theorem qarg_ptr (g v o : Nat) : qarg h (.ptr g v o) = qbox h g v o (h g) := rfl
theorem J6l (g v o : Nat) : Jli h (.ptr g v o) = qbox h g v o (h g) := rfl
theorem qbox_box (g ver off v : Nat) (cells : List AV) : qbox h g ver off (some (.box v cells)) = if v = ver then (if cells.all AV.flat = true then some (.rptr (cells.drop off), [g]) else Jyf off g (cells.mapM (snap h depth))) else none := rfl
theorem J53 (v : AV) (hv : v.flat = true) : qarg h v = some (v, []) := by
 cases v <;> first | rfl | cases hv
theorem Jy2 (v : AV) (hv : v.flat = true) : Jli h v = some (v, []) := by
 cases v <;> first | rfl | cases hv
theorem J36 (l : List AV) : AV.flat (.rptr l) = true := rfl
theorem cv_rptr (l : List AV) : AV.cells (.rptr l) = some [.rptr l] := rfl
theorem qarg_int (k : IntKind) (n : Int) : qarg h (.int k n) = some (.int k n, []) := rfl
theorem J9x (b : Bool) : qarg h (.bool b) = some (.bool b, []) := rfl
theorem qarg_str (b : ByteArray) : qarg h (.str b) = some (.str b, []) := rfl
theorem J9m : qarg h .nils = some (.nils, []) := rfl
theorem J6s (l : List AV) : qarg h (.rptr l) = some (.rptr l, []) := rfl
theorem J38 (k : IntKind) (n : Int) : Jli h (.int k n) = some (.int k n, []) := rfl
theorem Jzw (b : Bool) : Jli h (.bool b) = some (.bool b, []) := rfl
theorem Jyj : Jli h .nils = some (.nils, []) := rfl
theorem Jya (l : List AV) : Jli h (.rptr l) = some (.rptr l, []) := rfl
theorem qarg_agg (l : List AV) (hl : l.all AV.flat = true) : qarg h (.agg l) = some (.agg l, []) := Jsk h l hl
theorem J3n (l : List AV) (hl : l.all AV.flat = true) : Jli h (.agg l) = some (.agg l, []) := Jsk h l hl
def fnS (f : FuncId) : Option (List (AV × List Nat)) → Option (AV × List Nat)
 | some ps => some (.fn f (ps.map (·.1)), ps.flatMap (·.2))
 | none => none
theorem bszV_ok {α : Type} {e : α → List AV} (H : Heap) (g0 n w : Nat) (el : TypeId) (l : List α) (c : List AV) (hn : l.length = n) (hf : c.all AV.flat = true) (hc : c = Jn e l) (hl : c.length = n * w) :
  bszV H g0 n w el (some c) = some (encF e (flit l), upd H g0 (some (.arr (Kj H g0) w el c true))) := by
 subst hc hn
 exact if_pos ⟨hf, hl⟩
theorem snap_fnE (f : FuncId) (caps : List AV) : snap h depth (.fn f caps) = fnS f (caps.mapM (snap h 7)) := rfl
theorem snap_fnD (f : FuncId) (caps : List AV) (hc : caps.all AV.flat = true) : snap h depth (.fn f caps) = some (.fn f caps, []) := by
 have : ∀ l : List AV, l.all AV.flat = true → l.mapM (snap h 7) = some (l.map fun v => (v, [])) := fun l hl => by
  induction l with
  | nil => rfl
  | cons v r ih =>
   simp only [List.all_cons, Bool.and_eq_true] at hl
   rw [List.mapM_cons, Jlt h 6 v hl.1, ih hl.2]
   rfl
 rw [snap_fnE, this caps hc]
 simp [fnS, List.map_map, Function.comp_def, List.flatMap]
end
attribute [simp] renE_enc J36 cv_rptr snap_fnD qarg_int J9x qarg_str J9m J6s J38 Jzw Jyj Jya J53 Jy2 qarg_agg J3n J6n Jyk J62 J0l Jzg qarg_fn qfn_some qarg_ptr J6l qbox_box J5 delR
 J37 Jg Jh Jk Jr Ju Jt Js Jv Jzn J5q J0v J77 J6k flst_lst J49 lenV_row ren_MP addS_MP flat_MP cv_MP
end Go.Vv
