/- Rules for walking typed functions: rows as slices, views, maps, arrays, pointers that are read out, calls that share. Conditions: none. -/
import Derived.Test.YtchiiiahgmfofaaVr
namespace Go.Vv
open Go
set_option linter.unusedSectionVars false

/-! Rows of the call's own, as slices. -/
section
variable {α : Type}
def fsnoc (x : FS α) (a : α) : FS α := .lst (x.l ++ [a])
def fapp (x y : FS α) : FS α := .lst (x.l ++ y.l)
def fset (x : FS α) (i : Int) (a : α) : FS α := .lst (x.l.set i.toNat a)
def frep (z : α) (n : Int) : FS α := .lst (List.replicate n.toNat z)
def flit (l : List α) : FS α := .lst l
/-- The same, as a row. -/
def flst (x : FS α) : FS α := .lst x.l
/-- A slice that is appended to nil: nil if it is empty. -/
def fnil (x : FS α) : FS α := if x.l = [] then .nil else .lst x.l
theorem fsnoc_l (x : FS α) (a : α) : (fsnoc x a).l = x.l ++ [a] := rfl
theorem fapp_l (x y : FS α) : (fapp x y).l = x.l ++ y.l := rfl
theorem fset_l (x : FS α) (i : Int) (a : α) : (fset x i a).l = x.l.set i.toNat a := rfl
theorem fset_len (x : FS α) (i : Int) (a : α) : (fset x i a).l.length = x.l.length := by rw [fset_l, List.length_set]
theorem frep_l (z : α) (n : Int) : (frep z n).l = List.replicate n.toNat z := rfl
theorem flit_l (l : List α) : (flit l).l = l := rfl
theorem flst_l (x : FS α) : (flst x).l = x.l := rfl
end
section
variable {α : Type} {w : Nat} {e : α → List AV} [hE : EncOK w e]
theorem lenV_row (h : Heap) (g v off : Nat) (x : FS α) : lenV h (.arr g v off x.l.length) = if curAny h g v = true then some (flen x) else none := rfl
theorem snap_row (k : Nat) {h : Heap} {g v : Nat} {x : FS α} {el : TypeId} {fz : Bool} (e1 : h g = some (.arr v w el (cellsE e x.l) fz)) :
    snap h (k + 1) (.arr g v 0 x.l.length) = some (encF e (flst x), [g]) := snap_arrE k e1
theorem snap_rowD {h : Heap} {g v : Nat} {x : FS α} {el : TypeId} {fz : Bool} (e1 : h g = some (.arr v w el (cellsE e x.l) fz)) :
    snap h depth (.arr g v 0 x.l.length) = some (encF e (flst x), [g]) := snap_arrE 7 e1
theorem snap_row7 {h : Heap} {g v : Nat} {x : FS α} {el : TypeId} {fz : Bool} (e1 : h g = some (.arr v w el (cellsE e x.l) fz)) :
    snap h 7 (.arr g v 0 x.l.length) = some (encF e (flst x), [g]) := snap_arrE 6 e1
theorem iaddr_row {x : FS α} {i : Int} {a : α} (hg : fget x i = some a) (h : Heap) (k : IntKind) (g v : Nat) : iaddrV h w (.arr g v 0 x.l.length) (.int k i) = if curA h g v w = true then some (.ptr g v (pIdx w i)) else none := iaddr_own (l := x.l) hg h k g v
theorem pack_row {x : FS α} {i : Int} {a : α} (hg : fget x i = some a) (ag : Bool) (off n : Nat) (ho : off + n ≤ w) (hn0 : 0 < n) : pack ag (cellsE e x.l) (pIdx w i + off) n = pack ag (e a) off n := pack_own (e := e) (l := x.l) hg ag off n ho hn0
theorem pack_row0 {x : FS α} {i : Int} {a : α} (hg : fget x i = some a) (ag : Bool) (n : Nat) (ho : n ≤ w) (hn0 : 0 < n) : pack ag (cellsE e x.l) (pIdx w i) n = pack ag (e a) 0 n := pack_own0 (e := e) (l := x.l) hg ag n ho hn0
theorem paste_row {x : FS α} {i : Int} {a y : α} (hg : fget x i = some a) {off : Nat} {c : List AV} (ho : off + c.length ≤ w) (hy : paste (e a) off c = e y) : paste (cellsE e x.l) (pIdx w i + off) c = cellsE e (fset x i y).l := paste_own (e := e) (l := x.l) hg ho hy
theorem paste_row0 {x : FS α} {i : Int} {a y : α} (hg : fget x i = some a) {c : List AV} (ho : c.length ≤ w) (hy : paste (e a) 0 c = e y) : paste (cellsE e x.l) (pIdx w i) c = cellsE e (fset x i y).l := paste_own0 (e := e) (l := x.l) hg ho hy
theorem in_row {x : FS α} {i : Int} {a : α} (hg : fget x i = some a) (off n : Nat) (ho : off + n ≤ w) : pIdx w i + off + n ≤ x.l.length * w := in_own (l := x.l) hg off n ho
theorem in_row0 {x : FS α} {i : Int} {a : α} (hg : fget x i = some a) (n : Nat) (ho : n ≤ w) : pIdx w i + n ≤ x.l.length * w := in_own0 (l := x.l) hg n ho
theorem app_row1 {x : FS α} {a : α} {bytes : Nat} (hf : fits bytes (flen x + 1) = true) (hw : 0 < w) (g0 : Nat) {h : Heap} {g v : Nat} {el : TypeId} {y : AV} (hg : h g = some (.arr v w el (cellsE e x.l) false)) (h1 : lenV h y = some 1)
    (h2 : elemsV h w y = some (e a)) : appV h g0 w bytes el (.arr g v 0 x.l.length) y = some (.arr g (v + 1) 0 (fsnoc x a).l.length, upd h g (some (.arr (v + 1) w el (cellsE e (fsnoc x a).l) false))) := app_one (l := x.l) (x := a) hf hw g0 hg h1 h2
theorem app_nil {a : α} {bytes : Nat} (hf : fits bytes (flen (FS.nil : FS α) + 1) = true) (hw : 0 < w) {h : Heap} {g0 : Nat} {el : TypeId} {y : AV} (hg : h g0 = none) (h1 : lenV h y = some 1) (h2 : elemsV h w y = some (e a)) :
    appV h g0 w bytes el .nils y = some (.arr g0 1 0 (fsnoc (FS.nil : FS α) a).l.length, upd h g0 (some (.arr 1 w el (cellsE e (fsnoc (FS.nil : FS α) a).l) false))) := app_nil1 (x := a) (show fits bytes 1 = true from hf) hw hg h1 h2
theorem app_rows {x y : FS α} {bytes : Nat} (hf : fits bytes (flen x + flen y) = true) (hw : 0 < w) (g0 : Nat) {h : Heap} {g v : Nat} {el : TypeId} {u : AV} (hg : h g = some (.arr v w el (cellsE e x.l) false)) (h1 : lenV h u = some (flen y))
    (h2 : elemsV h w u = some (cellsE e y.l)) : appV h g0 w bytes el (.arr g v 0 x.l.length) u = some (.arr g (bump v (flen y)) 0 (fapp x y).l.length, upd h g (some (.arr (bump v (flen y)) w el (cellsE e (fapp x y).l) false))) := app_many (l := x.l) (m := y.l) hf hw g0 hg h1 h2
theorem app_rowsF {x y : FS α} {bytes : Nat} (hf : fits bytes (flen x + flen y) = true) (hw : 0 < w) (g0 : Nat) {h : Heap} {g v : Nat} {el : TypeId} (hg : h g = some (.arr v w el (cellsE e x.l) false)) :
    appV h g0 w bytes el (.arr g v 0 x.l.length) (encF e y) = some (.arr g (bump v (flen y)) 0 (fapp x y).l.length, upd h g (some (.arr (bump v (flen y)) w el (cellsE e (fapp x y).l) false))) :=
  app_rows (e := e) hf hw g0 hg (lenV_F h y) (elems_F h y)
/-- Something is appended to nil: nothing. -/
theorem app_nils0 {y : FS α} {bytes : Nat} (hz : ieq (flen y) 0 = true) {h : Heap} {g0 : Nat} {el : TypeId} {u : AV} (h1 : lenV h u = some (flen y)) (h2 : elemsV h w u = some (cellsE e y.l)) : appV h g0 w bytes el .nils u = some (.nils, h) := by
  have h0 : y.l = [] := by
    have : flen y = 0 := by simpa [ieq] using hz
    unfold flen at this
    exact List.length_eq_zero_iff.1 (by omega)
  simp only [appV, h1, h2]
  rw [if_pos (by rw [h0]; rfl)]
theorem app_nils1 {y : FS α} {bytes : Nat} (hz : ieq (flen y) 0 = false) (hf : fits bytes (flen y) = true) (hw : 0 < w) {h : Heap} {g0 : Nat} {el : TypeId} {u : AV} (hg : h g0 = none) (h1 : lenV h u = some (flen y)) (h2 : elemsV h w u = some (cellsE e y.l)) :
    appV h g0 w bytes el .nils u = some (.arr g0 1 0 (flst y).l.length, upd h g0 (some (.arr 1 w el (cellsE e (flst y).l) false))) :=
  app_nilm (e := e) (m := y.l) (fun h0 => by
    have : flen y = 0 := by unfold flen; rw [h0]; rfl
    simp [ieq, this] at hz) hf hw hg h1 h2
theorem fnil0 {y : FS α} (hz : ieq (flen y) 0 = true) : fnil y = .nil := by
  have h0 : y.l = [] := by
    have : flen y = 0 := by simpa [ieq] using hz
    unfold flen at this
    exact List.length_eq_zero_iff.1 (by omega)
  unfold fnil; rw [if_pos h0]
theorem fnil1 {y : FS α} (hz : ieq (flen y) 0 = false) : fnil y = flst y := by
  unfold fnil; rw [if_neg]; · rfl
  intro h0
  have : flen y = 0 := by unfold flen; rw [h0]; rfl
  simp [ieq, this] at hz
theorem mk_row {z : α} {bytes : Nat} {n m : Int} (hok : mkOK bytes n m = true) {h : Heap} {g0 : Nat} (hg : h g0 = none) (el : TypeId) (k k' : IntKind) :
    mkV h g0 w bytes el (e z) (.int k n) (.int k' m) = some (.arr g0 0 0 (frep z n).l.length, upd h g0 (some (.arr 0 w el (cellsE e (frep z n).l) false))) := by
  exact mk_own (e := e) (z := z) hok hg el k k'
/-! A part of a row. -/
omit hE in
theorem fsl_len {x m : FS α} {a b : Int} (hs : fsl x a b = some m) : 0 ≤ a ∧ a ≤ b ∧ b ≤ x.l.length ∧ m.l = (x.l.drop a.toNat).take (b - a).toNat ∧ m.l.length = (b - a).toNat := by
  cases x with
  | nil =>
    simp only [fsl] at hs
    split at hs
    · rename_i hc; cases hs; obtain ⟨rfl, rfl⟩ := hc; simp [FS.l]
    · cases hs
  | lst l =>
    simp only [fsl] at hs
    split at hs
    · rename_i hc; cases hs; refine ⟨hc.1, hc.2.1, hc.2.2, rfl, ?_⟩; simp only [FS.l, List.length_take, List.length_drop] at *; omega
    · cases hs
omit hE in
theorem slice_row {x m : FS α} {a b : Int} (hs : fsl x a b = some m) (h : Heap) (k k' : IntKind) (g v : Nat) : sliceV h w (.arr g v 0 x.l.length) (some (.int k a)) (some (.int k' b)) = if curA h g v w = true then some (.arr g v a.toNat m.l.length) else none := by
  obtain ⟨h1, h2, h3, -, h5⟩ := fsl_len hs
  simp only [sliceV, boundV, h5, Nat.zero_add]
  by_cases hc : curA h g v w = true
  · rw [if_pos ⟨h1, h2, h3, hc⟩, if_pos hc]
  · rw [if_neg (fun hh => hc hh.2.2.2), if_neg hc]
omit hE in
theorem slice_rowlo {x m : FS α} {a : Int} (hs : fsl x a (flen x) = some m) (h : Heap) (k : IntKind) (g v : Nat) : sliceV h w (.arr g v 0 x.l.length) (some (.int k a)) none = if curA h g v w = true then some (.arr g v a.toNat m.l.length) else none :=
  slice_row hs h k .i64 g v
omit hE in
theorem slice_rowhi {x m : FS α} {b : Int} (hs : fsl x 0 b = some m) (h : Heap) (k' : IntKind) (g v : Nat) : sliceV h w (.arr g v 0 x.l.length) none (some (.int k' b)) = if curA h g v w = true then some (.arr g v 0 m.l.length) else none :=
  slice_row hs h .i64 k' g v
omit hE in
theorem part_off {x m : FS α} {a b : Int} (hs : fsl x a b = some m) (w : Nat) : a.toNat * w ≤ x.l.length * w := by
  obtain ⟨h1, h2, h3, -, -⟩ := fsl_len hs
  exact Nat.mul_le_mul_right w (by omega)
theorem cut_part {x m : FS α} {a b : Int} (hs : fsl x a b = some m) : cut (cellsE e x.l) (a.toNat * w) (m.l.length * w) = cellsE e m.l := by
  obtain ⟨h1, h2, h3, h4, h5⟩ := fsl_len hs
  unfold cut
  rw [cellsE_drop, cellsE_take, h5, h4]
theorem elems_part {x m : FS α} {a b : Int} (hs : fsl x a b = some m) {h : Heap} {g v : Nat} {el : TypeId} {fz : Bool} (hg : h g = some (.arr v w el (cellsE e x.l) fz)) : elemsV h w (.arr g v a.toNat m.l.length) = some (cellsE e m.l) := by
  obtain ⟨h1, h2, h3, h4, h5⟩ := fsl_len hs
  simp only [elemsV, hg]
  rw [if_pos ⟨trivial, trivial, by rw [cellsE_len (e := e)]; exact Nat.mul_le_mul_right w (by omega)⟩, cut_part (e := e) hs]
theorem lenV_part (h : Heap) (g v off : Nat) (x : FS α) : lenV h (.arr g v off x.l.length) = if curAny h g v = true then some (flen x) else none := rfl
theorem snap_part {x m : FS α} {a b : Int} (hs : fsl x a b = some m) {h : Heap} {g v : Nat} {el : TypeId} {fz : Bool} (hg : h g = some (.arr v w el (cellsE e x.l) fz)) (k : Nat) : snap h (k + 1) (.arr g v a.toNat m.l.length) = some (encF e (flst m), [g]) := by
  obtain ⟨h1, h2, h3, h4, h5⟩ := fsl_len hs
  simp only [snap, hg]
  rw [if_pos ⟨trivial, by rw [cellsE_len (e := e)]; exact Nat.mul_le_mul_right w (by omega)⟩, cut_part (e := e) hs, if_pos (cellsE_flat m.l)]
  rfl
/-- One is appended to a rest of a row. -/
theorem app_part1 {x m : FS α} {i : Int} (hs : fsl x i (flen x) = some m) {a : α} {bytes : Nat} (hf : fits bytes (flen m + 1) = true) (hw : 0 < w) (g0 : Nat) {h : Heap} {g v : Nat} {el : TypeId} {y : AV} (hg : h g = some (.arr v w el (cellsE e x.l) false)) (h1 : lenV h y = some 1)
    (h2 : elemsV h w y = some (e a)) : appV h g0 w bytes el (.arr g v i.toNat m.l.length) y = some (.arr g (v + 1) 0 (fsnoc m a).l.length, upd h g (some (.arr (v + 1) w el (cellsE e (fsnoc m a).l) false))) := by
  obtain ⟨q1, q2, q3, q4, q5⟩ := fsl_len hs
  simp only [fits, Bool.and_eq_true, flen] at hf
  have hne : e a ≠ [] := by
    intro hn
    have := hE.len a
    rw [hn] at this
    simp at this
    omega
  have hml : i.toNat + m.l.length = x.l.length := by unfold flen at q5 q2; omega
  simp only [appV, h1, h2, hg]
  rw [if_pos ⟨trivial, trivial, trivial, by rw [cellsE_len (e := e), hml]⟩, if_neg hne, if_pos ⟨of_decide_eq_true hf.1, of_decide_eq_true hf.2⟩]
  have hd : (cellsE e x.l).drop (i.toNat * w) = cellsE e m.l := by
    rw [cellsE_drop, q4]
    congr 1
    rw [List.take_of_length_le]
    rw [List.length_drop]; unfold flen; omega
  rw [hd]
  have : cellsE e m.l ++ e a = cellsE e (fsnoc m a).l := (cells_osnoc m.l a).symm
  rw [this]
  simp [fsnoc_l]
end
/-! Maps. -/
class KeyOK {K : Type} (ag : outParam Bool) (sh : outParam (List Bool)) (ek : K → AV) (q : outParam (K → K → Bool)) : Prop where
  eq : ∀ a b, eqV ag sh (ek a) (ek b) = some (q a b)
  nm : ∀ a, (ek a).noNm = true
class ValOK {V : Type} (ev : V → AV) : Prop where
  nm : ∀ v, (ev v).noNm = true
def encM {K V : Type} (ek : K → AV) (ev : V → AV) (es : List (K × V)) : List (AV × AV) := es.map fun p => (ek p.1, ev p.2)
section
variable {K V : Type}
theorem map_erase {α β : Type} (f : α → β) : ∀ (l : List α) (j : Nat), (l.map f).eraseIdx j = (l.eraseIdx j).map f
  | [], j => by simp
  | a :: l, 0 => by simp
  | a :: l, j + 1 => by simp [map_erase f l j]
def mpos (q : K → K → Bool) (k : K) : Nat → List (K × V) → Option Nat
  | _, [] => none
  | i, p :: r => if q k p.1 = true then some i else mpos q k (i + 1) r
def mget (q : K → K → Bool) (es : List (K × V)) (k : K) (z : V) : V := match mpos q k 0 es with
  | some j => (match es[j]? with | some p => p.2 | none => z)
  | none => z
def mhas (q : K → K → Bool) (es : List (K × V)) (k : K) : Bool := (mpos q k 0 es).isSome
def mset (q : K → K → Bool) (es : List (K × V)) (k : K) (v : V) : List (K × V) := match mpos q k 0 es with
  | some j => es.set j (k, v)
  | none => es ++ [(k, v)]
def mdel (q : K → K → Bool) (es : List (K × V)) (k : K) : List (K × V) := match mpos q k 0 es with
  | some j => es.eraseIdx j
  | none => es
def mlen (es : List (K × V)) : Int := es.length
variable {ag : Bool} {sh : List Bool} {ek : K → AV} {q : K → K → Bool} [hK : KeyOK ag sh ek q] {ev : V → AV} [hV : ValOK ev]
include hK
theorem posM_enc (k : K) : ∀ (es : List (K × V)) (i : Nat), posM ag sh (ek k) i (encM ek ev es) = some (mpos q k i es)
  | [], i => rfl
  | p :: r, i => by
    show posM ag sh (ek k) i ((ek p.1, ev p.2) :: encM ek ev r) = _
    simp only [posM, mpos, hK.eq]
    cases q k p.1 with
    | true => rfl
    | false => exact posM_enc k r (i + 1)
theorem keyOK_enc (k : K) : keyOK ag sh (ek k) = true := by unfold keyOK; rw [hK.eq]; rfl
omit hK in
theorem atM_enc (es : List (K × V)) (z : V) (o : Option Nat) : atM (encM ek ev es) (ev z) o = ev (match o with | some j => (match es[j]? with | some p => p.2 | none => z) | none => z) := by
  cases o with
  | none => rfl
  | some j =>
    simp only [atM, encM, List.getElem?_map]
    cases es[j]? <;> rfl
theorem look_enc (es : List (K × V)) (k : K) (z : V) : lookE false ag sh (ev z) (ek k) (some (encM ek ev es)) = some (ev (mget q es k z)) := by
  simp only [lookE, keyOK_enc, posM_enc, if_true, lookP, atM_enc, Bool.false_eq_true, if_false]
  rfl
theorem look_encOk (es : List (K × V)) (k : K) (z : V) : lookE true ag sh (ev z) (ek k) (some (encM ek ev es)) = some (.tup [ev (mget q es k z), .bool (mhas q es k)]) := by
  simp only [lookE, keyOK_enc, posM_enc, if_true, lookP, atM_enc]
  rfl
theorem set_enc {h : Heap} {g ver : Nat} {es : List (K × V)} (hg : h g = some (.map ver (encM ek ev es) false)) (k : K) (v : V) : setV h ag sh (ek k) (ev v) (.map g ver) = some (upd h g (some (.map ver (encM ek ev (mset q es k v)) false))) := by
  have hc : curM h g ver = some (encM ek ev es) := by simp [curM, hg]
  simp only [setV, hc, keyOK_enc, if_true, posM_enc, setE, mset]
  cases mpos q k 0 es with
  | none => simp [putM, encM]
  | some j => simp [putM, encM, List.map_set]
theorem del_enc {h : Heap} {g ver : Nat} {es : List (K × V)} (hg : h g = some (.map ver (encM ek ev es) false)) (k : K) : delV h ag sh (ek k) (.map g ver) = some (upd h g (some (.map ver (encM ek ev (mdel q es k)) false))) := by
  have hc : curM h g ver = some (encM ek ev es) := by simp [curM, hg]
  simp only [delV, hc, keyOK_enc, if_true, posM_enc, delE, mdel]
  cases mpos q k 0 es with
  | none => simp [outM]
  | some j => simp [outM, encM, map_erase]
omit hK in
theorem es_map {h : Heap} {g ver : Nat} {es : List (AV × AV)} (hg : h g = some (.map ver es false)) : esOf h (.map g ver) = some es := by simp [esOf, curM, hg]
omit hK in
theorem es_mpr (h : Heap) (es : List (K × V)) : esOf h (.mpr (es.map fun p => ek p.1) (es.map fun p => ev p.2)) = some (encM ek ev es) := by
  simp only [esOf, encM]
  congr 1
  induction es with
  | nil => rfl
  | cons p r ih => simp [List.zip_cons_cons, ih]
omit hK in
include hV in
theorem encM_nm (es : List (K × V)) : (encM ek ev es).all (fun p => p.2.noNm) = true := by
  rw [List.all_eq_true]
  intro p hp
  simp only [encM, List.mem_map] at hp
  obtain ⟨x, -, rfl⟩ := hp
  exact hV.nm x.2
omit hK in
include hV in
theorem renE_enc (h : Heap) (tb : List Win) (es : List (K × V)) : renE h tb (encM ek ev es) = encM ek ev es := by unfold renE; rw [if_pos (encM_nm es)]
/-- A map that is handed out. -/
def encMP (ek : K → AV) (ev : V → AV) (es : List (K × V)) : AV := .mpr (es.map fun p => ek p.1) (es.map fun p => ev p.2)
omit hK in
include hV in
theorem snap_mapE (k : Nat) {h : Heap} {g ver : Nat} {es : List (K × V)} (hg : h g = some (.map ver (encM ek ev es) false)) : snap h (k + 1) (.map g ver) = some (encMP ek ev es, [g]) := by
  simp only [snap, hg]
  rw [if_pos ⟨trivial, encM_nm es⟩]
  simp [encMP, encM, List.map_map, Function.comp_def]
omit hK in
include hV in
theorem snap_mapD {h : Heap} {g ver : Nat} {es : List (K × V)} (hg : h g = some (.map ver (encM ek ev es) false)) : snap h depth (.map g ver) = some (encMP ek ev es, [g]) := snap_mapE 7 hg
omit hK in
theorem es_MP (h : Heap) (es : List (K × V)) : esOf h (encMP ek ev es) = some (encM ek ev es) := es_mpr h es
omit hK in
theorem ren_MP (h : Heap) (tb : List Win) (es : List (K × V)) : ren h tb (encMP ek ev es) = encMP ek ev es := rfl
omit hK in
theorem addS_MP (h : Heap) (c : Bool) (tb : List Win) (k : Nat) (es : List (K × V)) : addS h c tb k (encMP ek ev es) = tb := rfl
omit hK in
theorem flat_MP (es : List (K × V)) : AV.flat (encMP ek ev es) = true := rfl
omit hK in
theorem cv_MP (es : List (K × V)) : AV.cells (encMP ek ev es) = some [encMP ek ev es] := rfl
end
/-! Arrays. -/
def aOff (o esz : Nat) (i : Int) : Nat := o + i.toNat * esz
def inB (i : Int) (n : Nat) : Bool := decide (0 ≤ i) && decide (i < n)
theorem inB_iff {i : Int} {n : Nat} : inB i n = true ↔ 0 ≤ i ∧ i < n := by simp [inB]
theorem iaddrA_in {i : Int} {n : Nat} (hi : inB i n = true) (h : Heap) (esz g v o : Nat) (k : IntKind) : iaddrAV h n esz (.ptr g v o) (.int k i) = if cur h g v = true then some (.ptr g v (o + i.toNat * esz)) else none := by
  obtain ⟨h1, h2⟩ := inB_iff.1 hi
  rw [iaddrA_ptr]
  by_cases hc : cur h g v = true
  · rw [if_pos ⟨h1, h2, hc⟩, if_pos hc]
  · rw [if_neg (fun hh => hc hh.2.2), if_neg hc]
theorem iaddrA_off {i : Int} {n : Nat} (hi : inB i n = true) (h : Heap) (esz g v o : Nat) (k : IntKind) : iaddrAV h n esz (.ptr g v o) (.int k i) = if cur h g v = true then some (.ptr g v (aOff o esz i)) else none := iaddrA_in hi h esz g v o k
theorem iaddrA_r {i : Int} {n : Nat} (hi : inB i n = true) (h : Heap) (esz : Nat) (l : List AV) (k : IntKind) : iaddrAV h n esz (.rptr l) (.int k i) = some (.rptr (l.drop (aOff 0 esz i))) := by
  obtain ⟨h1, h2⟩ := inB_iff.1 hi
  simp only [iaddrAV, aOff, Nat.zero_add]
  rw [if_pos ⟨h1, h2⟩]
theorem idx_in {n : Nat} {i : Int} (hi : inB i n = true) (w : Nat) (ag : Bool) (l : List AV) (k : IntKind) : idxV n w ag (.agg l) (.int k i) = pack ag l (aOff 0 w i) w := by
  obtain ⟨h1, h2⟩ := inB_iff.1 hi
  simp only [idxV, aOff, Nat.zero_add]
  rw [if_pos ⟨h1, h2⟩]
theorem aOff_in {i : Int} {n : Nat} (hi : inB i n = true) (o w : Nat) (N : Nat) (hN : o + n * w ≤ N) : aOff o w i + w ≤ N := by
  obtain ⟨h1, h2⟩ := inB_iff.1 hi
  have : (i.toNat + 1) * w ≤ n * w := Nat.mul_le_mul_right w (by omega)
  rw [Nat.add_mul] at this
  unfold aOff
  omega
theorem pack_drop (ag : Bool) (l : List AV) (k n : Nat) (hn : 0 < n) : pack ag (l.drop k) 0 n = pack ag l k n := by
  unfold pack
  by_cases hk : k + n ≤ l.length
  · rw [if_pos hk, if_pos (by rw [List.length_drop]; omega)]
    cases ag with
    | true => simp [cut]
    | false => simp [List.getElem?_drop]
  · rw [if_neg hk, if_neg (by rw [List.length_drop]; omega)]
section
variable {α : Type} {w : Nat} {e : α → List AV} [hE : EncOK w e]
include hE
theorem pack_mid {l : List α} {i : Int} {a : α} (hl : l[i.toNat]? = some a) (P Q : List AV) (hw : 0 < w) (ag : Bool) : pack ag (P ++ (cellsE e l ++ Q)) (aOff P.length w i) w = pack ag (e a) 0 w := by
  have hs := cells_split (e := e) hl
  have hlt := (List.getElem?_eq_some_iff.1 hl).1
  have hlen : (cellsE e (l.take i.toNat)).length = i.toNat * w := by rw [cellsE_len (e := e), List.length_take, Nat.min_eq_left (by omega)]
  have e1 : P ++ (cellsE e l ++ Q) = (P ++ cellsE e (l.take i.toNat)) ++ (e a ++ (cellsE e (l.drop (i.toNat + 1)) ++ Q)) := by rw [hs]; simp only [List.append_assoc]
  have e2 : aOff P.length w i = (P ++ cellsE e (l.take i.toNat)).length := by rw [List.length_append, hlen]; rfl
  rw [e1, e2, ← pack_drop _ _ _ _ hw, List.drop_left]
  have hex := hE.len a
  have h1 : 0 + w ≤ (e a ++ (cellsE e (l.drop (i.toNat + 1)) ++ Q)).length := by rw [List.length_append, hex]; omega
  have h2 : 0 + w ≤ (e a).length := by rw [hex]; omega
  unfold pack
  rw [if_pos h1, if_pos h2]
  cases ag with
  | true => simp only [if_true, cut, List.drop_zero]; rw [List.take_append_of_le_length (by omega)]
  | false => simp only [Bool.false_eq_true, if_false]; rw [List.getElem?_append_left (by omega)]
theorem paste_mid {l : List α} {i : Int} (hi : i.toNat < l.length) (P Q : List AV) (y : α) : paste (P ++ (cellsE e l ++ Q)) (aOff P.length w i) (e y) = P ++ (cellsE e (l.set i.toNat y) ++ Q) := by
  have hl := List.getElem?_eq_getElem hi
  have hs := cells_split (e := e) hl
  have hlen : (cellsE e (l.take i.toNat)).length = i.toNat * w := by rw [cellsE_len (e := e), List.length_take, Nat.min_eq_left (by omega)]
  have e1 : P ++ (cellsE e l ++ Q) = (P ++ cellsE e (l.take i.toNat)) ++ (e l[i.toNat] ++ (cellsE e (l.drop (i.toNat + 1)) ++ Q)) := by rw [hs]; simp only [List.append_assoc]
  have e2 : aOff P.length w i = (P ++ cellsE e (l.take i.toNat)).length := by rw [List.length_append, hlen]; rfl
  have hset : l.set i.toNat y = l.take i.toNat ++ y :: l.drop (i.toNat + 1) := List.set_eq_take_append_cons_drop .. ▸ by simp [hi]
  have hc : cellsE e (l.take i.toNat ++ y :: l.drop (i.toNat + 1)) = cellsE e (l.take i.toNat) ++ (e y ++ cellsE e (l.drop (i.toNat + 1))) := by simp [cellsE]
  rw [hset, hc, e1, e2]
  unfold paste
  rw [List.take_left, ← List.drop_drop, List.drop_left]
  have : (e y).length = (e l[i.toNat]).length := by rw [hE.len, hE.len]
  rw [this, List.drop_left]
  simp only [List.append_assoc]
theorem app_row_nils {x : FS α} {h : Heap} {g v : Nat} {el : TypeId} (hg : h g = some (.arr v w el (cellsE e x.l) false)) (g0 bytes : Nat) : appV h g0 w bytes el (.arr g v 0 x.l.length) .nils = some (.arr g v 0 (fapp x (FS.nil : FS α)).l.length, h) := by
  have : (fapp x (FS.nil : FS α)).l = x.l := by rw [fapp_l]; exact List.append_nil _
  rw [this]
  simp only [appV, lenV, elemsV, hg]
  rw [if_pos ⟨trivial, trivial, trivial, by rw [cellsE_len (e := e)]; simp⟩]
  rfl
end
theorem app_nils_nils (h : Heap) (g0 esz bytes : Nat) (el : TypeId) : appV h g0 esz bytes el .nils .nils = some (.nils, h) := rfl
/-- A slice is appended to a row or to nil. -/
def fappn {α : Type} (x y : FS α) : FS α := match x with
  | .nil => fnil y
  | .lst l => .lst (l ++ y.l)
section
variable {α : Type}
theorem fappn_nils : fappn (FS.nil : FS α) (FS.nil : FS α) = FS.nil := rfl
theorem fappn_nil0 {y : FS α} (hz : ieq (flen y) 0 = true) : fappn (FS.nil : FS α) y = FS.nil := fnil0 hz
theorem fappn_nil1 {y : FS α} (hz : ieq (flen y) 0 = false) : fappn (FS.nil : FS α) y = flst y := fnil1 hz
theorem fappn_lst (l : List α) (y : FS α) : fappn (FS.lst l) y = fapp (FS.lst l) y := rfl
theorem fappn_l (x y : FS α) : (fappn x y).l = x.l ++ y.l := by
  cases x with
  | nil =>
    simp only [fappn, fnil]
    split
    · rename_i h; rw [h]; rfl
    · rfl
  | lst l => rfl
theorem fits_nil0 {bytes : Nat} {y : FS α} (h : fits bytes (0 + flen y) = true) : fits bytes (flen y) = true := by rwa [Int.zero_add] at h
theorem fits_nil {bytes : Nat} {y : FS α} (h : fits bytes (flen (FS.nil : FS α) + flen y) = true) : fits bytes (flen y) = true := by
  have : flen (FS.nil : FS α) + flen y = flen y := by simp [flen, FS.l]
  rwa [this] at h
theorem flen_nil : flen (FS.nil : FS α) = 0 := rfl
theorem fget_nil (i : Int) : fget (FS.nil : FS α) i = none := by
  unfold fget getL
  split
  · simp [FS.l]
  · rfl
theorem flst_fsnoc (x : FS α) (a : α) : flst (fsnoc x a) = fsnoc x a := rfl
theorem flst_fapp (x y : FS α) : flst (fapp x y) = fapp x y := rfl
theorem flst_fset (x : FS α) (i : Int) (a : α) : flst (fset x i a) = fset x i a := rfl
theorem flst_frep (z : α) (n : Int) : flst (frep z n) = frep z n := rfl
theorem flst_flit (l : List α) : flst (flit l) = flit l := rfl
theorem flst_lst (l : List α) : flst (FS.lst l) = FS.lst l := rfl
theorem flst_flst (x : FS α) : flst (flst x) = flst x := rfl
end
/-- Nil, or a row. -/
def fcase {α β : Type} (x : FS α) (a : β) (f : FS α → β) : β := match x with
  | .nil => a
  | .lst l => f (.lst l)
section
variable {α β : Type} (a : β) (f : FS α → β)
theorem fcase_nil : fcase (FS.nil : FS α) a f = a := rfl
theorem fcase_lst (l : List α) : fcase (FS.lst l) a f = f (FS.lst l) := rfl
theorem fcase_fsnoc (x : FS α) (v : α) : fcase (fsnoc x v) a f = f (fsnoc x v) := rfl
theorem fcase_fapp (x y : FS α) : fcase (fapp x y) a f = f (fapp x y) := rfl
theorem fcase_fset (x : FS α) (i : Int) (v : α) : fcase (fset x i v) a f = f (fset x i v) := rfl
theorem fcase_frep (z : α) (n : Int) : fcase (frep z n) a f = f (frep z n) := rfl
theorem fcase_flit (l : List α) : fcase (flit l) a f = f (flit l) := rfl
theorem fcase_flst (x : FS α) : fcase (flst x) a f = f (flst x) := rfl
end
theorem mkM_enc {K V : Type} {ek : K → AV} {ev : V → AV} (v : Nat) (z : Bool) : AObj.map v [] z = .map v (encM ek ev ([] : List (K × V))) z := rfl
theorem esOf_map (h : Heap) (g v : Nat) : esOf h (.map g v) = curM h g v := rfl
section
variable {h : Heap} {ns : List Nat}
theorem qargs_nil : qargs h [] = some ([], []) := rfl
theorem qargs_cons (v : AV) (r : List AV) : qargs h (v :: r) = consQ (qarg h v) (qargs h r) := rfl
theorem qcaps_nil : qcaps h [] = some ([], []) := rfl
theorem qcaps_cons (v : AV) (r : List AV) : qcaps h (v :: r) = consQ (qarg1 h v) (qcaps h r) := rfl
theorem consQ_some (u : AV) (ns : List Nat) (us : List AV) (ms : List Nat) : consQ (some (u, ns)) (some (us, ms)) = some (u :: us, ns ++ ms) := rfl
theorem qarg_fn (f : FuncId) (caps : List AV) : qarg h (.fn f caps) = qfn f (qcaps h caps) := rfl
theorem qfn_some (f : FuncId) (us : List AV) (ns : List Nat) : qfn f (some (us, ns)) = some (.fn f us, ns) := rfl
theorem qarg_ptr (g v o : Nat) : qarg h (.ptr g v o) = qbox h g v o (h g) := rfl
theorem qarg1_ptr (g v o : Nat) : qarg1 h (.ptr g v o) = qbox h g v o (h g) := rfl
theorem qbox_box (g ver off v : Nat) (cells : List AV) : qbox h g ver off (some (.box v cells)) = if v = ver then (if cells.all AV.flat = true then some (.rptr (cells.drop off), [g]) else qboxM off g (cells.mapM (snap h depth))) else none := rfl
theorem qarg_flat (v : AV) (hv : v.flat = true) : qarg h v = some (v, []) := by
  cases v <;> first | rfl | cases hv
theorem qarg1_flat (v : AV) (hv : v.flat = true) : qarg1 h v = some (v, []) := by
  cases v <;> first | rfl | cases hv
theorem flat_rptr (l : List AV) : AV.flat (.rptr l) = true := rfl
theorem cv_rptr (l : List AV) : AV.cells (.rptr l) = some [.rptr l] := rfl
theorem qarg_int (k : IntKind) (n : Int) : qarg h (.int k n) = some (.int k n, []) := rfl
theorem qarg_bool (b : Bool) : qarg h (.bool b) = some (.bool b, []) := rfl
theorem qarg_str (b : ByteArray) : qarg h (.str b) = some (.str b, []) := rfl
theorem qarg_nils : qarg h .nils = some (.nils, []) := rfl
theorem qarg_rptr (l : List AV) : qarg h (.rptr l) = some (.rptr l, []) := rfl
theorem qarg1_int (k : IntKind) (n : Int) : qarg1 h (.int k n) = some (.int k n, []) := rfl
theorem qarg1_bool (b : Bool) : qarg1 h (.bool b) = some (.bool b, []) := rfl
theorem qarg1_nils : qarg1 h .nils = some (.nils, []) := rfl
theorem qarg1_rptr (l : List AV) : qarg1 h (.rptr l) = some (.rptr l, []) := rfl
theorem qarg_agg (l : List AV) (hl : l.all AV.flat = true) : qarg h (.agg l) = some (.agg l, []) := snap_agg h l hl
theorem qarg1_agg (l : List AV) (hl : l.all AV.flat = true) : qarg1 h (.agg l) = some (.agg l, []) := snap_agg h l hl
def fnS (f : FuncId) : Option (List (AV × List Nat)) → Option (AV × List Nat)
  | some ps => some (.fn f (ps.map (·.1)), ps.flatMap (·.2))
  | none => none
theorem bszV_ok {α : Type} {e : α → List AV} (H : Heap) (g0 n w : Nat) (el : TypeId) (l : List α) (c : List AV) (hn : l.length = n) (hf : c.all AV.flat = true) (hc : c = cellsE e l) (hl : c.length = n * w) :
    bszV H g0 n w el (some c) = some (encF e (flit l), upd H g0 (some (.arr (newVer H g0) w el c true))) := by
  subst hc hn
  exact if_pos ⟨hf, hl⟩
theorem snap_fnE (f : FuncId) (caps : List AV) : snap h depth (.fn f caps) = fnS f (caps.mapM (snap h 7)) := rfl
theorem snap_fnD (f : FuncId) (caps : List AV) (hc : caps.all AV.flat = true) : snap h depth (.fn f caps) = some (.fn f caps, []) := by
  have : ∀ l : List AV, l.all AV.flat = true → l.mapM (snap h 7) = some (l.map fun v => (v, [])) := fun l hl => by
    induction l with
    | nil => rfl
    | cons v r ih =>
      simp only [List.all_cons, Bool.and_eq_true] at hl
      rw [List.mapM_cons, snap_flat0 h 6 v hl.1, ih hl.2]
      rfl
  rw [snap_fnE, this caps hc]
  simp [fnS, List.map_map, Function.comp_def, List.flatMap]
end
attribute [simp] renE_enc flat_rptr cv_rptr snap_fnD qarg_int qarg_bool qarg_str qarg_nils qarg_rptr qarg1_int qarg1_bool qarg1_nils qarg1_rptr qarg_flat qarg1_flat qarg_agg qarg1_agg qargs_nil qargs_cons qcaps_nil qcaps_cons consQ_some qarg_fn qfn_some qarg_ptr qarg1_ptr qbox_box fset_len delR
  fcase_nil fcase_lst fcase_fsnoc fcase_fapp fcase_fset fcase_frep fcase_flit fcase_flst flst_fsnoc flst_fapp flst_fset flst_frep flst_flit flst_lst flst_flst lenV_row ren_MP addS_MP flat_MP cv_MP
end Go.Vv
