/- Rules for walking typed functions: rows as slices, views, maps, arrays, pointers that are read out, calls that share. Conditions: none. -/
import Derived.Test.YtemehoioeoohmaaVr
namespace Go.Vv
open Go
set_option linter.unusedSectionVars false
section
variable {α : Type}
def Y0 (x : FS α) (a : α) : FS α := .lst (x.l ++ [a])
def fapp (x y : FS α) : FS α := .lst (x.l ++ y.l)
def fset (x : FS α) (i : Int) (a : α) : FS α := .lst (x.l.set i.toNat a)
def frep (z : α) (n : Int) : FS α := .lst (List.replicate n.toNat z)
def flit (l : List α) : FS α := .lst l
def flst (x : FS α) : FS α := .lst x.l
def fnil (x : FS α) : FS α := if x.l = [] then .nil else .lst x.l
theorem Jap (x : FS α) (a : α) : (Y0 x a).l = x.l ++ [a] := rfl
theorem Jf5 (x y : FS α) : (fapp x y).l = x.l ++ y.l := rfl
theorem Jic (x : FS α) (i : Int) (a : α) : (fset x i a).l = x.l.set i.toNat a := rfl
theorem J5 (x : FS α) (i : Int) (a : α) : (fset x i a).l.length = x.l.length := by rw [Jic, List.length_set]
theorem Jdf (l : List α) : (flit l).l = l := rfl
theorem Jnt (x : FS α) : (flst x).l = x.l := rfl
end
def J3 {α β : Type} (x : Option α) (f : α → Option β) : Option β := match x with
 | none => none
 | some v => f v
theorem Jv3 {α β : Type} (f : α → Option β) : J3 none f = none := rfl
theorem Jb {α β : Type} (v : α) (f : α → Option β) : J3 (some v) f = f v := rfl
attribute [simp] Jv3 Jb
def quoO (k : IntKind) (a b : Int) : Option Int := if ieq b 0 = true then none else some (iquo k a b)
def remO (a b : Int) : Option Int := if ieq b 0 = true then none else some (irem a b)
def Jq8 {α : Type} : FS α → Option Bool
 | .nil => some true
 | .lst [] => none
 | .lst (_ :: _) => some false
theorem Jwg (h : Heap) : Jib h .nils = some true := rfl
theorem J46 (h : Heap) (g v o n : Nat) : Jib h (.arr g v o n) = if Jcp h g v = true then some false else none := rfl
attribute [simp] Jwg J46
theorem Jxv {α : Type} {e : α → List AV} {x : FS α} {b : Bool} (hx : Jq8 x = some b) (h : Heap) : Jib h (encF e x) = some b := by
 cases x with
 | nil => cases hx; rfl
 | lst l =>
  cases l with
  | nil => cases hx
  | cons a l => cases hx; rfl
section
variable {α : Type} {w : Nat} {e : α → List AV} [hE : EncOK w e]
theorem lenV_row (h : Heap) (g v off : Nat) (x : FS α) : lenV h (.arr g v off x.l.length) = if Jcp h g v = true then some (flen x) else none := rfl
theorem Qm {h : Heap} {g v : Nat} {x : FS α} {el : TypeId} {fz : Bool} (e1 : h g = some (.arr v w el (Jp e x.l) fz)) :
  snap h depth (.arr g v 0 x.l.length) = some (encF e (flst x), [g]) := Jm7 7 e1
theorem Jhk {h : Heap} {g v : Nat} {x : FS α} {el : TypeId} {fz : Bool} (e1 : h g = some (.arr v w el (Jp e x.l) fz)) :
  snap h 7 (.arr g v 0 x.l.length) = some (encF e (flst x), [g]) := Jm7 6 e1
theorem J4d {h : Heap} {g v : Nat} {x : FS α} {el : TypeId} {fz : Bool} (e1 : h g = some (.arr v w el (Jp e x.l) fz)) :
  snap h 6 (.arr g v 0 x.l.length) = some (encF e (flst x), [g]) := Jm7 5 e1
theorem Jwe (h : Heap) (l : List AV) (hl : l.all AV.flat = false) : snap h 7 (.agg l) = aggS (l.mapM (snap h 6)) := by
 show snap h (6 + 1) (.agg l) = _
 simp only [snap]
 rw [if_neg (by rw [hl]; decide)]
 cases l.mapM (snap h 6) <;> rfl
theorem J3i (h : Heap) (k : IntKind) (n : Int) : snap h 6 (.int k n) = some (.int k n, []) := rfl
theorem Jwb (h : Heap) (b : Bool) : snap h 6 (.bool b) = some (.bool b, []) := rfl
theorem J3p (h : Heap) (b : ByteArray) : snap h 6 (.str b) = some (.str b, []) := rfl
theorem Jvr (h : Heap) : snap h 6 .nils = some (.nils, []) := rfl
theorem Jxn (h : Heap) (l : List AV) (hl : l.all AV.flat = true) : snap h 6 (.agg l) = some (.agg l, []) := by
 simp only [snap]
 rw [if_pos hl]
include hE in
theorem snap6_F (h : Heap) (x : FS α) : snap h 6 (encF e x) = some (encF e x, []) := Jhn h 5 _ (Jfs x)
theorem Qa {x : FS α} {i : Int} {a : α} (hg : fget x i = some a) (h : Heap) (k : IntKind) (g v : Nat) : Jf4 h w (.arr g v 0 x.l.length) (.int k i) = if curA h g v w = true then some (.ptr g v (pIdx w i)) else none := J0d (l := x.l) hg h k g v
theorem Jgd {x : FS α} {i : Int} {a : α} (hg : fget x i = some a) (ag : Bool) (off n : Nat) (ho : off + n ≤ w) (hn0 : 0 < n) : pack ag (Jp e x.l) (pIdx w i + off) n = pack ag (e a) off n := Jug (e := e) (l := x.l) hg ag off n ho hn0
theorem X1 {x : FS α} {i : Int} {a : α} (hg : fget x i = some a) (ag : Bool) (n : Nat) (ho : n ≤ w) (hn0 : 0 < n) : pack ag (Jp e x.l) (pIdx w i) n = pack ag (e a) 0 n := J0l (e := e) (l := x.l) hg ag n ho hn0
theorem Jg1 {x : FS α} {i : Int} {a y : α} (hg : fget x i = some a) {off : Nat} {c : List AV} (ho : off + c.length ≤ w) (hy : paste (e a) off c = e y) : paste (Jp e x.l) (pIdx w i + off) c = Jp e (fset x i y).l := Jrl (e := e) (l := x.l) hg ho hy
theorem Jda {x : FS α} {i : Int} {a y : α} (hg : fget x i = some a) {c : List AV} (ho : c.length ≤ w) (hy : paste (e a) 0 c = e y) : paste (Jp e x.l) (pIdx w i) c = Jp e (fset x i y).l := Jw1 (e := e) (l := x.l) hg ho hy
theorem Jo8 {x : FS α} {i : Int} {a : α} (hg : fget x i = some a) (off n : Nat) (ho : off + n ≤ w) : pIdx w i + off + n ≤ x.l.length * w := in_own (l := x.l) hg off n ho
theorem Jhp {x : FS α} {i : Int} {a : α} (hg : fget x i = some a) (n : Nat) (ho : n ≤ w) : pIdx w i + n ≤ x.l.length * w := in_own0 (l := x.l) hg n ho
theorem Yn {x : FS α} {a : α} {bytes : Nat} (hf : fits bytes (flen x + 1) = true) (hw : 0 < w) (g0 : Nat) {h : Heap} {g v : Nat} {el : TypeId} {y : AV} (hg : h g = some (.arr v w el (Jp e x.l) false)) (h1 : lenV h y = some 1)
  (h2 : Jcw h w y = some (e a)) : appV h g0 w bytes el (.arr g v 0 x.l.length) y = some (.arr g (v + 1) 0 (Y0 x a).l.length, upd h g (some (.arr (v + 1) w el (Jp e (Y0 x a).l) false))) := app_one (l := x.l) (x := a) hf hw g0 hg h1 h2
theorem Jbw {a : α} {bytes : Nat} (hf : fits bytes (flen (FS.nil : FS α) + 1) = true) (hw : 0 < w) {h : Heap} {g0 : Nat} {el : TypeId} {y : AV} (hg : h g0 = none) (h1 : lenV h y = some 1) (h2 : Jcw h w y = some (e a)) :
  appV h g0 w bytes el .nils y = some (.arr g0 1 0 (Y0 (FS.nil : FS α) a).l.length, upd h g0 (some (.arr 1 w el (Jp e (Y0 (FS.nil : FS α) a).l) false))) := app_nil1 (x := a) (show fits bytes 1 = true from hf) hw hg h1 h2
theorem Jp1 {x y : FS α} {bytes : Nat} (hf : fits bytes (flen x + flen y) = true) (hw : 0 < w) (g0 : Nat) {h : Heap} {g v : Nat} {el : TypeId} {u : AV} (hg : h g = some (.arr v w el (Jp e x.l) false)) (h1 : lenV h u = some (flen y))
  (h2 : Jcw h w u = some (Jp e y.l)) : appV h g0 w bytes el (.arr g v 0 x.l.length) u = some (.arr g (bump v (flen y)) 0 (fapp x y).l.length, upd h g (some (.arr (bump v (flen y)) w el (Jp e (fapp x y).l) false))) := app_many (l := x.l) (m := y.l) hf hw g0 hg h1 h2
theorem Jci {x y : FS α} {bytes : Nat} (hf : fits bytes (flen x + flen y) = true) (hw : 0 < w) (g0 : Nat) {h : Heap} {g v : Nat} {el : TypeId} (hg : h g = some (.arr v w el (Jp e x.l) false)) :
  appV h g0 w bytes el (.arr g v 0 x.l.length) (encF e y) = some (.arr g (bump v (flen y)) 0 (fapp x y).l.length, upd h g (some (.arr (bump v (flen y)) w el (Jp e (fapp x y).l) false))) :=
 Jp1 (e := e) hf hw g0 hg (Juj h y) (Jpi h y)
theorem Jnm {y : FS α} {bytes : Nat} (hz : ieq (flen y) 0 = true) {h : Heap} {g0 : Nat} {el : TypeId} {u : AV} (h1 : lenV h u = some (flen y)) (h2 : Jcw h w u = some (Jp e y.l)) : appV h g0 w bytes el .nils u = some (.nils, h) := by
 have h0 : y.l = [] := by
  have : flen y = 0 := by simpa [ieq] using hz
  unfold flen at this
  exact List.length_eq_zero_iff.1 (by omega)
 simp only [appV, h1, h2]
 rw [if_pos (by rw [h0]; rfl)]
theorem Jm4 {y : FS α} {bytes : Nat} (hz : ieq (flen y) 0 = false) (hf : fits bytes (flen y) = true) (hw : 0 < w) {h : Heap} {g0 : Nat} {el : TypeId} {u : AV} (hg : h g0 = none) (h1 : lenV h u = some (flen y)) (h2 : Jcw h w u = some (Jp e y.l)) :
  appV h g0 w bytes el .nils u = some (.arr g0 1 0 (flst y).l.length, upd h g0 (some (.arr 1 w el (Jp e (flst y).l) false))) :=
 app_nilm (e := e) (m := y.l) (fun h0 => by
  have : flen y = 0 := by unfold flen; rw [h0]; rfl
  simp [ieq, this] at hz) hf hw hg h1 h2
theorem fnil0 {y : FS α} (hz : ieq (flen y) 0 = true) : fnil y = .nil := by
 have h0 : y.l = [] := by
  have : flen y = 0 := by simpa [ieq] using hz
  unfold flen at this
  exact List.length_eq_zero_iff.1 (by omega)
 unfold fnil; rw [if_pos h0]
theorem fnil1 {y : FS α} (hz : ieq (flen y) 0 = false) : fnil y = flst y := by
 unfold fnil; rw [if_neg]; · rfl
 intro h0
 have : flen y = 0 := by unfold flen; rw [h0]; rfl
 simp [ieq, this] at hz
theorem mk_row {z : α} {bytes : Nat} {n m : Int} (hok : mkOK bytes n m = true) {h : Heap} {g0 : Nat} (hg : h g0 = none) (el : TypeId) (k k' : IntKind) :
  mkV h g0 w bytes el (e z) (.int k n) (.int k' m) = some (.arr g0 0 0 (frep z n).l.length, upd h g0 (some (.arr 0 w el (Jp e (frep z n).l) false))) := by
 exact mk_own (e := e) (z := z) hok hg el k k'
omit hE in
theorem Jlt {x m : FS α} {a b : Int} (hs : fsl x a b = some m) : 0 ≤ a ∧ a ≤ b ∧ b ≤ x.l.length ∧ m.l = (x.l.drop a.toNat).take (b - a).toNat ∧ m.l.length = (b - a).toNat := by
 cases x with
 | nil =>
  simp only [fsl] at hs
  split at hs
  ·rename_i hc; cases hs; obtain ⟨rfl, rfl⟩ := hc; simp [FS.l]
  ·cases hs
 | lst l =>
  simp only [fsl] at hs
  split at hs
  ·rename_i hc; cases hs; refine ⟨hc.1, hc.2.1, hc.2.2, rfl, ?_⟩; simp only [FS.l, List.length_take, List.length_drop] at *; omega
  ·cases hs
omit hE in
theorem Jqm {x m : FS α} {a b : Int} (hs : fsl x a b = some m) (h : Heap) (k k' : IntKind) (g v : Nat) : Jd4 h w (.arr g v 0 x.l.length) (some (.int k a)) (some (.int k' b)) = if curA h g v w = true then some (.arr g v a.toNat m.l.length) else none := by
 obtain ⟨h1, h2, h3, -, h5⟩ := Jlt hs
 simp only [Jd4, Jd8, h5, Nat.zero_add]
 by_cases hc : curA h g v w = true
 ·rw [if_pos ⟨h1, h2, h3, hc⟩, if_pos hc]
 ·rw [if_neg (fun hh => hc hh.2.2.2), if_neg hc]
omit hE in
theorem Jfy {x m : FS α} {a : Int} (hs : fsl x a (flen x) = some m) (h : Heap) (k : IntKind) (g v : Nat) : Jd4 h w (.arr g v 0 x.l.length) (some (.int k a)) none = if curA h g v w = true then some (.arr g v a.toNat m.l.length) else none :=
 Jqm hs h k .i64 g v
omit hE in
theorem Jhq {x m : FS α} {b : Int} (hs : fsl x 0 b = some m) (h : Heap) (k' : IntKind) (g v : Nat) : Jd4 h w (.arr g v 0 x.l.length) none (some (.int k' b)) = if curA h g v w = true then some (.arr g v 0 m.l.length) else none :=
 Jqm hs h .i64 k' g v
omit hE in
theorem Je6 {x m : FS α} {a b : Int} (hs : fsl x a b = some m) (w : Nat) : a.toNat * w ≤ x.l.length * w := by
 obtain ⟨h1, h2, h3, -, -⟩ := Jlt hs
 exact Nat.mul_le_mul_right w (by omega)
theorem Jdk {x m : FS α} {a b : Int} (hs : fsl x a b = some m) : cut (Jp e x.l) (a.toNat * w) (m.l.length * w) = Jp e m.l := by
 obtain ⟨h1, h2, h3, h4, h5⟩ := Jlt hs
 unfold cut
 rw [Jka, Jmn, h5, h4]
theorem Joz {x m : FS α} {a b : Int} (hs : fsl x a b = some m) {h : Heap} {g v : Nat} {el : TypeId} {fz : Bool} (hg : h g = some (.arr v w el (Jp e x.l) fz)) : Jcw h w (.arr g v a.toNat m.l.length) = some (Jp e m.l) := by
 obtain ⟨h1, h2, h3, h4, h5⟩ := Jlt hs
 simp only [Jcw, hg]
 rw [if_pos ⟨trivial, trivial, by rw [Jag (e := e)]; exact Nat.mul_le_mul_right w (by omega)⟩, Jdk (e := e) hs]
theorem app_cut {x m y : FS α} {a b : Int} (hs : fsl x a b = some m) {bytes : Nat} (hf : fits bytes (flen m + flen y) = true) (hz : ieq (flen y) 0 = false) (hw : 0 < w) (g0 : Nat) {h : Heap} {g v : Nat} {el : TypeId} {u : AV}
  (hg : h g = some (.arr v w el (Jp e x.l) false)) (h1 : lenV h u = some (flen y)) (h2 : Jcw h w u = some (Jp e y.l)) :
  appV h g0 w bytes el (.arr g v a.toNat m.l.length) u = some (.arr g (v + 1) 0 (fapp m y).l.length, upd h g (some (.arr (v + 1) w el (Jp e (fapp m y).l) false))) := by
 obtain ⟨q1, q2, q3, q4, q5⟩ := Jlt hs
 simp only [fits, Bool.and_eq_true, flen] at hf
 have hy : y.l ≠ [] := by
  intro h0
  have : flen y = 0 := by unfold flen; rw [h0]; rfl
  simp [ieq, this] at hz
 have hne : Jp e y.l ≠ [] := fun hn => hy ((Jli y.l hw).1 hn)
 have hle : (a.toNat + m.l.length) * w ≤ (Jp e x.l).length := by
  rw [Jag (e := e), q5]
  exact Nat.mul_le_mul_right w (by omega)
 have hres : ∀ c, c = Jp e m.l → some (AV.arr g (v + 1) 0 (m.l.length + (flen y).toNat), upd h g (some (.arr (v + 1) w el (c ++ Jp e y.l) false))) = some (.arr g (v + 1) 0 (fapp m y).l.length, upd h g (some (.arr (v + 1) w el (Jp e (fapp m y).l) false))) := by
  intro c hc
  rw [hc, Jf5, List.length_append, show Jp e (m.l ++ y.l) = Jp e m.l ++ Jp e y.l from by simp [Jp]]
  simp [flen]
 have hfit : (m.l.length + flen y) * bytes ≤ room ∧ ((m.l.length : Int) + flen y) ≤ 9223372036854775807 := ⟨of_decide_eq_true hf.1, of_decide_eq_true hf.2⟩
 simp only [appV, h1, h2, hg]
 by_cases ht : (a.toNat + m.l.length) * w = (Jp e x.l).length
 ·rw [if_pos ⟨trivial, trivial, trivial, ht⟩, if_neg hne, if_pos hfit]
  refine hres _ ?_
  rw [← Jdk (e := e) hs]
  unfold cut
  rw [List.take_of_length_le]
  rw [List.length_drop]
  rw [Nat.add_mul] at ht
  omega
 ·rw [if_neg (fun q => ht q.2.2.2), if_pos ⟨trivial, trivial, trivial, hle⟩, if_neg hne, if_pos hfit]
  exact hres _ (Jdk (e := e) hs)
theorem app_cut0 {x m y : FS α} {a b : Int} (hs : fsl x a b = some m) (hz : ieq (flen y) 0 = true) (g0 bytes : Nat) {h : Heap} {g v : Nat} {el : TypeId} {u : AV}
  (hg : h g = some (.arr v w el (Jp e x.l) false)) (h1 : lenV h u = some (flen y)) (h2 : Jcw h w u = some (Jp e y.l)) :
  appV h g0 w bytes el (.arr g v a.toNat m.l.length) u = some (.arr g v a.toNat m.l.length, h) := by
 obtain ⟨q1, q2, q3, q4, q5⟩ := Jlt hs
 have hy : y.l = [] := by
  have : flen y = 0 := by simpa [ieq] using hz
  unfold flen at this
  exact List.length_eq_zero_iff.1 (by omega)
 have hne : Jp e y.l = [] := by rw [hy]; rfl
 have hle : (a.toNat + m.l.length) * w ≤ (Jp e x.l).length := by
  rw [Jag (e := e), q5]
  exact Nat.mul_le_mul_right w (by omega)
 simp only [appV, h1, h2, hg]
 by_cases ht : (a.toNat + m.l.length) * w = (Jp e x.l).length
 ·rw [if_pos ⟨trivial, trivial, trivial, ht⟩, if_pos hne]
 ·rw [if_neg (fun q => ht q.2.2.2), if_pos ⟨trivial, trivial, trivial, hle⟩, if_pos hne]
theorem Jmg {x m y : FS α} {a b c d : Int} (hs : fsl x a b = some m) (hy : fsl x c d = some y) {bytes : Nat} (hf : fits bytes (flen m + flen y) = true) (hz : ieq (flen y) 0 = false) (hw : 0 < w) (g0 : Nat) {h : Heap} {g v : Nat} {el : TypeId}
  (hg : h g = some (.arr v w el (Jp e x.l) false)) :
  appV h g0 w bytes el (.arr g v a.toNat m.l.length) (.arr g v c.toNat y.l.length) = some (.arr g (v + 1) 0 (fapp m y).l.length, upd h g (some (.arr (v + 1) w el (Jp e (fapp m y).l) false))) :=
 app_cut (e := e) hs hf hz hw g0 hg (by simp [lenV, Jcp, hg, flen]) (Joz (e := e) hy hg)
theorem Jkg {x m y : FS α} {a b c d : Int} (hs : fsl x a b = some m) (hy : fsl x c d = some y) (hz : ieq (flen y) 0 = true) (g0 bytes : Nat) {h : Heap} {g v : Nat} {el : TypeId}
  (hg : h g = some (.arr v w el (Jp e x.l) false)) :
  appV h g0 w bytes el (.arr g v a.toNat m.l.length) (.arr g v c.toNat y.l.length) = some (.arr g v a.toNat m.l.length, h) :=
 app_cut0 (e := e) hs hz g0 bytes hg (by simp [lenV, Jcp, hg, flen]) (Joz (e := e) hy hg)
theorem Jky {m y : FS α} (hz : ieq (flen y) 0 = true) : fapp m y = flst m := by
 have hy : y.l = [] := by
  have : flen y = 0 := by simpa [ieq] using hz
  unfold flen at this
  exact List.length_eq_zero_iff.1 (by omega)
 unfold fapp flst
 rw [hy, List.append_nil]
end
theorem Jy0 (h : Heap) (n esz g v : Nat) : Jns h n esz (.ptr g v 0) = Jvm g v n esz (h g) := rfl
theorem J2w (g ver n esz v e : Nat) (t : TypeId) (c : List AV) (z : Bool) : Jvm g ver n esz (some (.arr v e t c z)) = if ver = v ∧ esz = e ∧ c.length = n * esz then some (.arr g ver 0 n) else none := rfl
def fnl {α : Type} : FS α → Bool
 | .nil => true
 | .lst _ => false
theorem fnl_nil {α : Type} : fnl (FS.nil : FS α) = true := rfl
theorem fnl_lst {α : Type} (l : List α) : fnl (FS.lst l) = false := rfl
theorem J3k {α : Type} (x : FS α) (a : α) : fnl (Y0 x a) = false := rfl
theorem fnl_fset {α : Type} (x : FS α) (i : Int) (a : α) : fnl (fset x i a) = false := rfl
attribute [simp] Jy0 J2w fnl_nil fnl_lst J3k fnl_fset
class KeyOK {K : Type} (ag : outParam Bool) (sh : outParam (List Bool)) (ek : K → AV) (q : outParam (K → K → Bool)) : Prop where
 eq : ∀ a b, eqV ag sh (ek a) (ek b) = some (q a b)
 nm : ∀ a, (ek a).noNm = true
class ValOK {V : Type} (ev : V → AV) : Prop where
 nm : ∀ v, (ev v).noNm = true
def encM {K V : Type} (ek : K → AV) (ev : V → AV) (es : List (K × V)) : List (AV × AV) := es.map fun p => (ek p.1, ev p.2)
section
variable {K V : Type}
def mpos (q : K → K → Bool) (k : K) : Nat → List (K × V) → Option Nat
 | _, [] => none
 | i, p :: r => if q k p.1 = true then some i else mpos q k (i + 1) r
def mget (q : K → K → Bool) (es : List (K × V)) (k : K) (z : V) : V := match mpos q k 0 es with
 | some j => (match es[j]? with | some p => p.2 | none => z)
 | none => z
def mhas (q : K → K → Bool) (es : List (K × V)) (k : K) : Bool := (mpos q k 0 es).isSome
def mset (q : K → K → Bool) (es : List (K × V)) (k : K) (v : V) : List (K × V) := match mpos q k 0 es with
 | some j => es.set j (k, v)
 | none => es ++ [(k, v)]
def mdel (q : K → K → Bool) (es : List (K × V)) (k : K) : List (K × V) := match mpos q k 0 es with
 | some j => es.eraseIdx j
 | none => es
def mlen (es : List (K × V)) : Int := es.length
variable {ag : Bool} {sh : List Bool} {ek : K → AV} {q : K → K → Bool} [hK : KeyOK ag sh ek q] {ev : V → AV} [hV : ValOK ev]
include hK
theorem Jmk (k : K) : ∀ (es : List (K × V)) (i : Nat), posM ag sh (ek k) i (encM ek ev es) = some (mpos q k i es)
 | [], i => rfl
 | p :: r, i => by
  show posM ag sh (ek k) i ((ek p.1, ev p.2) :: encM ek ev r) = _
  simp only [posM, mpos, hK.eq]
  cases q k p.1 with
  | true => rfl
  | false => exact Jmk k r (i + 1)
theorem Jm5 (k : K) : Jqp ag sh (ek k) = true := by unfold Jqp; rw [hK.eq]; rfl
omit hK in
theorem J1h (es : List (K × V)) (z : V) (o : Option Nat) : atM (encM ek ev es) (ev z) o = ev (match o with | some j => (match es[j]? with | some p => p.2 | none => z) | none => z) := by
 cases o with
 | none => rfl
 | some j =>
  simp only [atM, encM, List.getElem?_map]
  cases es[j]? <;> rfl
theorem look_enc (es : List (K × V)) (k : K) (z : V) : Jqd false ag sh (ev z) (ek k) (some (encM ek ev es)) = some (ev (mget q es k z)) := by
 simp only [Jqd, Jm5, Jmk, if_true, J5q, J1h, Bool.false_eq_true, if_false]
 rfl
theorem Jow (es : List (K × V)) (k : K) (z : V) : Jqd true ag sh (ev z) (ek k) (some (encM ek ev es)) = some (.tup [ev (mget q es k z), .bool (mhas q es k)]) := by
 simp only [Jqd, Jm5, Jmk, if_true, J5q, J1h]
 rfl
theorem J2f {h : Heap} {g ver : Nat} {es : List (K × V)} (hg : h g = some (.map ver (encM ek ev es) false)) (k : K) (v : V) : setV h ag sh (ek k) (ev v) (.map g ver) = some (upd h g (some (.map ver (encM ek ev (mset q es k v)) false))) := by
 have hc : curM h g ver = some (encM ek ev es) := by simp [curM, hg]
 simp only [setV, hc, Jm5, if_true, Jmk, setE, mset]
 cases mpos q k 0 es with
 | none => simp [putM, encM]
 | some j => simp [putM, encM, List.map_set]
omit hK in
theorem es_mpr (h : Heap) (es : List (K × V)) : esOf h (.mpr (es.map fun p => ek p.1) (es.map fun p => ev p.2)) = some (encM ek ev es) := by
 simp only [esOf, encM]
 congr 1
 induction es with
 | nil => rfl
 | cons p r ih => simp [List.zip_cons_cons, ih]
omit hK in
include hV in
theorem J33 (es : List (K × V)) : (encM ek ev es).all (fun p => p.2.noNm) = true := by
 rw [List.all_eq_true]
 intro p hp
 simp only [encM, List.mem_map] at hp
 obtain ⟨x, -, rfl⟩ := hp
 exact hV.nm x.2
omit hK in
include hV in
theorem renE_enc (h : Heap) (tb : List Win) (es : List (K × V)) : renE h tb (encM ek ev es) = encM ek ev es := by unfold renE; rw [if_pos (J33 es)]
def Jj3 (ek : K → AV) (ev : V → AV) (es : List (K × V)) : AV := .mpr (es.map fun p => ek p.1) (es.map fun p => ev p.2)
omit hK in
include hV in
theorem Jxl (k : Nat) {h : Heap} {g ver : Nat} {es : List (K × V)} (hg : h g = some (.map ver (encM ek ev es) false)) : snap h (k + 1) (.map g ver) = some (Jj3 ek ev es, [g]) := by
 simp only [snap, hg]
 rw [if_pos ⟨trivial, J33 es⟩]
 simp [Jj3, encM, List.map_map, Function.comp_def]
omit hK in
include hV in
theorem J40 {h : Heap} {g ver : Nat} {es : List (K × V)} (hg : h g = some (.map ver (encM ek ev es) false)) : snap h depth (.map g ver) = some (Jj3 ek ev es, [g]) := Jxl 7 hg
omit hK in
theorem es_MP (h : Heap) (es : List (K × V)) : esOf h (Jj3 ek ev es) = some (encM ek ev es) := es_mpr h es
omit hK in
theorem ren_MP (h : Heap) (tb : List Win) (es : List (K × V)) : ren h tb (Jj3 ek ev es) = Jj3 ek ev es := rfl
omit hK in
theorem addS_MP (h : Heap) (c : Bool) (tb : List Win) (k : Nat) (es : List (K × V)) : addS h c tb k (Jj3 ek ev es) = tb := rfl
omit hK in
theorem flat_MP (es : List (K × V)) : AV.flat (Jj3 ek ev es) = true := rfl
omit hK in
theorem cv_MP (es : List (K × V)) : AV.cells (Jj3 ek ev es) = some [Jj3 ek ev es] := rfl
end
def aOff (o esz : Nat) (i : Int) : Nat := o + i.toNat * esz
def inB (i : Int) (n : Nat) : Bool := decide (0 ≤ i) && decide (i < n)
theorem Jsc {i : Int} {n : Nat} : inB i n = true ↔ 0 ≤ i ∧ i < n := by simp [inB]
theorem idx_in {n : Nat} {i : Int} (hi : inB i n = true) (w : Nat) (ag : Bool) (l : List AV) (k : IntKind) : idxV n w ag (.agg l) (.int k i) = pack ag l (aOff 0 w i) w := by
 obtain ⟨h1, h2⟩ := Jsc.1 hi
 simp only [idxV, aOff, Nat.zero_add]
 rw [if_pos ⟨h1, h2⟩]
theorem J0q (ag : Bool) (l : List AV) (k n : Nat) (hn : 0 < n) : pack ag (l.drop k) 0 n = pack ag l k n := by
 unfold pack
 by_cases hk : k + n ≤ l.length
 ·rw [if_pos hk, if_pos (by rw [List.length_drop]; omega)]
  cases ag with
  | true => simp [cut]
  | false => simp [List.getElem?_drop]
 ·rw [if_neg hk, if_neg (by rw [List.length_drop]; omega)]
section
variable {α : Type} {w : Nat} {e : α → List AV} [hE : EncOK w e]
include hE
theorem pack_mid {l : List α} {i : Int} {a : α} (hl : l[i.toNat]? = some a) (P Q : List AV) (hw : 0 < w) (ag : Bool) : pack ag (P ++ (Jp e l ++ Q)) (aOff P.length w i) w = pack ag (e a) 0 w := by
 have hs := Jj1 (e := e) hl
 have hlt := (List.getElem?_eq_some_iff.1 hl).1
 have hlen : (Jp e (l.take i.toNat)).length = i.toNat * w := by rw [Jag (e := e), List.length_take, Nat.min_eq_left (by omega)]
 have e1 : P ++ (Jp e l ++ Q) = (P ++ Jp e (l.take i.toNat)) ++ (e a ++ (Jp e (l.drop (i.toNat + 1)) ++ Q)) := by rw [hs]; simp only [List.append_assoc]
 have e2 : aOff P.length w i = (P ++ Jp e (l.take i.toNat)).length := by rw [List.length_append, hlen]; rfl
 rw [e1, e2, ← J0q _ _ _ _ hw, List.drop_left]
 have hex := hE.len a
 have h1 : 0 + w ≤ (e a ++ (Jp e (l.drop (i.toNat + 1)) ++ Q)).length := by rw [List.length_append, hex]; omega
 have h2 : 0 + w ≤ (e a).length := by rw [hex]; omega
 unfold pack
 rw [if_pos h1, if_pos h2]
 cases ag with
 | true => simp only [if_true, cut, List.drop_zero]; rw [List.take_append_of_le_length (by omega)]
 | false => simp only [Bool.false_eq_true, if_false]; rw [List.getElem?_append_left (by omega)]
end
def Jl8 {α : Type} (x y : FS α) : FS α := match x with
 | .nil => fnil y
 | .lst l => .lst (l ++ y.l)
section
variable {α : Type}
theorem Jll {y : FS α} (hz : ieq (flen y) 0 = true) : Jl8 (FS.nil : FS α) y = FS.nil := fnil0 hz
theorem Jk7 {y : FS α} (hz : ieq (flen y) 0 = false) : Jl8 (FS.nil : FS α) y = flst y := fnil1 hz
theorem J2o (l : List α) (y : FS α) : Jl8 (FS.lst l) y = fapp (FS.lst l) y := rfl
theorem Jz5 (x y : FS α) : (Jl8 x y).l = x.l ++ y.l := by
 cases x with
 | nil =>
  simp only [Jl8, fnil]
  split
  ·rename_i h; rw [h]; rfl
  ·rfl
 | lst l => rfl
theorem Jnx {bytes : Nat} {y : FS α} (h : fits bytes (0 + flen y) = true) : fits bytes (flen y) = true := by rwa [Int.zero_add] at h
theorem Jr : flen (FS.nil : FS α) = 0 := rfl
theorem Jcg (i : Int) : fget (FS.nil : FS α) i = none := by
 unfold fget getL
 split
 ·simp [FS.l]
 ·rfl
theorem Jwl (x : FS α) (a : α) : flst (Y0 x a) = Y0 x a := rfl
theorem Jzz (x y : FS α) : flst (fapp x y) = fapp x y := rfl
theorem J0v (x : FS α) (i : Int) (a : α) : flst (fset x i a) = fset x i a := rfl
theorem J10 (z : α) (n : Int) : flst (frep z n) = frep z n := rfl
theorem Jxz (l : List α) : flst (flit l) = flit l := rfl
theorem flst_lst (l : List α) : flst (FS.lst l) = FS.lst l := rfl
theorem Jyk (x : FS α) : flst (flst x) = flst x := rfl
end
theorem Jkl {α : Type} {c : Bool} {i : Int} {v : Option α} (h : gOpt c (fget (FS.nil : FS α) i) = some v) : c = false := by
 cases c with
 | false => rfl
 | true => simp [gOpt, Jcg] at h
theorem oS {α β : Type} {x : Option α} {f : α → Option β} {r : β} (h : J3 x f = some r) : ∃ v, x = some v ∧ f v = some r := by
 cases x with
 | none => cases h
 | some v => exact ⟨v, rfl, h⟩
theorem ifS {β : Type} {p : Prop} [Decidable p] {A : Option β} {r : β} (h : (if p then A else none) = some r) : p ∧ A = some r := by
 split at h
 ·exact ⟨‹_›, h⟩
 ·cases h
theorem ifN {β : Type} {b : Bool} {A : Option β} {r : β} (h : (if b = true then none else A) = some r) : b = false ∧ A = some r := by
 cases b with
 | true => cases h
 | false => exact ⟨rfl, h⟩
theorem ifC {β : Type} {b : Bool} {A B : Option β} {r : β} (h : (if b = true then A else B) = some r) : (b = true ∧ A = some r) ∨ (b = false ∧ B = some r) := by
 cases b with
 | true => exact .inl ⟨rfl, h⟩
 | false => exact .inr ⟨rfl, h⟩
def zo {α β : Type} (x : FS α) (a : β) (f : FS α → β) : β := match x with
 | .nil => a
 | .lst l => f (.lst l)
section
variable {α β : Type} (a : β) (f : FS α → β)
theorem Jj : zo (FS.nil : FS α) a f = a := rfl
theorem Jk (l : List α) : zo (FS.lst l) a f = f (FS.lst l) := rfl
theorem Jq (x : FS α) (v : α) : zo (Y0 x v) a f = f (Y0 x v) := rfl
theorem Jv (x y : FS α) : zo (fapp x y) a f = f (fapp x y) := rfl
theorem Jt (x : FS α) (i : Int) (v : α) : zo (fset x i v) a f = f (fset x i v) := rfl
theorem Jx (z : α) (n : Int) : zo (frep z n) a f = f (frep z n) := rfl
theorem Jw (l : List α) : zo (flit l) a f = f (flit l) := rfl
theorem Ju (x : FS α) : zo (flst x) a f = f (flst x) := rfl
end
theorem mkM_enc {K V : Type} {ek : K → AV} {ev : V → AV} (v : Nat) (z : Bool) : AObj.map v [] z = .map v (encM ek ev ([] : List (K × V))) z := rfl
theorem Jty (h : Heap) (g v : Nat) : esOf h (.map g v) = curM h g v := rfl
section
variable {h : Heap} {ns : List Nat}
theorem Jyy : Jj0 h [] = some ([], []) := rfl
theorem Jwj (v : AV) (r : List AV) : Jj0 h (v :: r) = Joe (qarg h v) (Jj0 h r) := rfl
theorem J2g : Jlh h [] = some ([], []) := rfl
theorem Jwn (v : AV) (r : List AV) : Jlh h (v :: r) = Joe (Jip h v) (Jlh h r) := rfl
theorem Jwf (u : AV) (ns : List Nat) (us : List AV) (ms : List Nat) : Joe (some (u, ns)) (some (us, ms)) = some (u :: us, ns ++ ms) := rfl
theorem qarg_fn (f : FuncId) (caps : List AV) : qarg h (.fn f caps) = qfn f (Jlh h caps) := rfl
theorem qfn_some (f : FuncId) (us : List AV) (ns : List Nat) : qfn f (some (us, ns)) = some (.fn f us, ns) := rfl
theorem qarg_ptr (g v o : Nat) : qarg h (.ptr g v o) = qbox h g v o (h g) := rfl
theorem J4b (g v o : Nat) : Jip h (.ptr g v o) = qbox h g v o (h g) := rfl
theorem qbox_box (g ver off v : Nat) (cells : List AV) : qbox h g ver off (some (.box v cells)) = if v = ver then (if cells.all AV.flat = true then some (.rptr (cells.drop off), [g]) else Jwk off g (cells.mapM (snap h depth))) else none := rfl
theorem J54 (v : AV) (hv : v.flat = true) : qarg h v = some (v, []) := by
 cases v <;> first | rfl | cases hv
theorem Jwx (v : AV) (hv : v.flat = true) : Jip h v = some (v, []) := by
 cases v <;> first | rfl | cases hv
theorem J5z (l : List AV) : AV.flat (.rptr l) = true := rfl
theorem cv_rptr (l : List AV) : AV.cells (.rptr l) = some [.rptr l] := rfl
theorem qarg_int (k : IntKind) (n : Int) : qarg h (.int k n) = some (.int k n, []) := rfl
theorem J13 (b : Bool) : qarg h (.bool b) = some (.bool b, []) := rfl
theorem qarg_str (b : ByteArray) : qarg h (.str b) = some (.str b, []) := rfl
theorem J1g : qarg h .nils = some (.nils, []) := rfl
theorem J4v (l : List AV) : qarg h (.rptr l) = some (.rptr l, []) := rfl
theorem Jzp (k : IntKind) (n : Int) : Jip h (.int k n) = some (.int k n, []) := rfl
theorem Jvx (b : Bool) : Jip h (.bool b) = some (.bool b, []) := rfl
theorem Jxc : Jip h .nils = some (.nils, []) := rfl
theorem Jwh (l : List AV) : Jip h (.rptr l) = some (.rptr l, []) := rfl
theorem qarg_agg (l : List AV) (hl : l.all AV.flat = true) : qarg h (.agg l) = some (.agg l, []) := Jpj h l hl
theorem J2q (l : List AV) (hl : l.all AV.flat = true) : Jip h (.agg l) = some (.agg l, []) := Jpj h l hl
def fnS (f : FuncId) : Option (List (AV × List Nat)) → Option (AV × List Nat)
 | some ps => some (.fn f (ps.map (·.1)), ps.flatMap (·.2))
 | none => none
theorem bszV_ok {α : Type} {e : α → List AV} (H : Heap) (g0 n w : Nat) (el : TypeId) (l : List α) (c : List AV) (hn : l.length = n) (hf : c.all AV.flat = true) (hc : c = Jp e l) (hl : c.length = n * w) :
  bszV H g0 n w el (some c) = some (encF e (flit l), upd H g0 (some (.arr (Kq H g0) w el c true))) := by
 subst hc hn
 exact if_pos ⟨hf, hl⟩
theorem snap_fnE (f : FuncId) (caps : List AV) : snap h depth (.fn f caps) = fnS f (caps.mapM (snap h 7)) := rfl
theorem snap_fnD (f : FuncId) (caps : List AV) (hc : caps.all AV.flat = true) : snap h depth (.fn f caps) = some (.fn f caps, []) := by
 have : ∀ l : List AV, l.all AV.flat = true → l.mapM (snap h 7) = some (l.map fun v => (v, [])) := fun l hl => by
  induction l with
  | nil => rfl
  | cons v r ih =>
   simp only [List.all_cons, Bool.and_eq_true] at hl
   rw [List.mapM_cons, Jhn h 6 v hl.1, ih hl.2]
   rfl
 rw [snap_fnE, this caps hc]
 simp [fnS, List.map_map, Function.comp_def, List.flatMap]
end
attribute [simp] renE_enc J5z cv_rptr snap_fnD qarg_int J13 qarg_str J1g J4v Jzp Jvx Jxc Jwh J54 Jwx qarg_agg J2q Jyy Jwj J2g Jwn Jwf qarg_fn qfn_some qarg_ptr J4b qbox_box J5 delR
 J2o Jj Jk Jq Jv Jt Jx Jw Ju Jwl Jzz J0v J10 Jxz flst_lst Jyk lenV_row ren_MP addS_MP flat_MP cv_MP
end Go.Vv
