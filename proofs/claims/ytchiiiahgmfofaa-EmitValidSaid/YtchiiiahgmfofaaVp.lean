/- Rules for walking code by rewriting: arithmetic stays closed, states are written out. Conditions: none. -/
import Derived.Test.YtchiiiahgmfofaaVo
namespace Go.Vv
open Go
set_option linter.unusedSectionVars false

/-! Closed arithmetic: a walk never opens it. -/
def iadd (k : IntKind) (a b : Int) : Int := k.wrap (a + b)
def isub (k : IntKind) (a b : Int) : Int := k.wrap (a - b)
def imul (k : IntKind) (a b : Int) : Int := k.wrap (a * b)
def iquo (k : IntKind) (a b : Int) : Int := k.wrap (a.tdiv b)
def irem (a b : Int) : Int := a.tmod b
def iand (k : IntKind) (a b : Int) : Int := bits .and k a b
def ior (k : IntKind) (a b : Int) : Int := bits .or k a b
def ixor (k : IntKind) (a b : Int) : Int := bits .xor k a b
def iandn (k : IntKind) (a b : Int) : Int := bits .andNot k a b
def ineg (k : IntKind) (a : Int) : Int := k.wrap (0 - a)
def icnv (k : IntKind) (a : Int) : Int := k.wrap a
def ishl (k : IntKind) (a b : Int) : Int := k.wrap (a * 2 ^ (min b.toNat k.bits))
def ishr (k : IntKind) (a b : Int) : Int := a.fdiv (2 ^ (min b.toNat k.bits))
def imax (a b : Int) : Int := mmV true a b
def imin (a b : Int) : Int := mmV false a b
def ieq (a b : Int) : Bool := a == b
def ine (a b : Int) : Bool := a != b
def ilt (a b : Int) : Bool := a < b
def ile (a b : Int) : Bool := a ≤ b
def igt (a b : Int) : Bool := a > b
def ige (a b : Int) : Bool := a ≥ b
def beqB (a b : Bool) : Bool := a == b
def bnot (a : Bool) : Bool := !a
def band (a b : Bool) : Bool := a && b
def bor (a b : Bool) : Bool := a || b
def iif {α : Type} (c : Bool) (a b : α) : α := if c = true then a else b
section
variable (h : Heap) (k : IntKind) (a b : Int) (x y : Bool)
theorem bin_add : ibinV .add k a b = some (.int k (iadd k a b)) := rfl
theorem bin_sub : ibinV .sub k a b = some (.int k (isub k a b)) := rfl
theorem bin_mul : ibinV .mul k a b = some (.int k (imul k a b)) := rfl
theorem bin_quo : ibinV .quo k a b = if ieq b 0 = true then none else some (.int k (iquo k a b)) := by
  simp only [ibinV, ieq, beq_iff_eq]; rfl
theorem bin_rem : ibinV .rem k a b = if ieq b 0 = true then none else some (.int k (irem a b)) := by
  simp only [ibinV, ieq, beq_iff_eq]; rfl
theorem bin_and : ibinV .and k a b = some (.int k (iand k a b)) := rfl
theorem bin_or : ibinV .or k a b = some (.int k (ior k a b)) := rfl
theorem bin_xor : ibinV .xor k a b = some (.int k (ixor k a b)) := rfl
theorem bin_andn : ibinV .andNot k a b = some (.int k (iandn k a b)) := rfl
theorem bin_eql : ibinV .eql k a b = some (.bool (ieq a b)) := rfl
theorem bin_neq : ibinV .neq k a b = some (.bool (ine a b)) := rfl
theorem bin_lss : ibinV .lss k a b = some (.bool (ilt a b)) := rfl
theorem bin_leq : ibinV .leq k a b = some (.bool (ile a b)) := rfl
theorem bin_gtr : ibinV .gtr k a b = some (.bool (igt a b)) := rfl
theorem bin_geq : ibinV .geq k a b = some (.bool (ige a b)) := rfl
theorem binV_int (op : BinOp) : binV h op (.int k a) (.int k b) = retV h (ibinV op k a b) := by simp [binV]
theorem retV_some (v : AV) : retV h (some v) = some (v, h) := rfl
theorem retV_ite {c : Prop} [Decidable c] (x y : Option AV) : retV h (if c then x else y) = if c then retV h x else retV h y := by split <;> rfl
theorem retV_none : retV h none = none := rfl
theorem retI_some (n : Int) : retI h (some n) = some (.int .i64 n, h) := rfl
theorem un_not : unV h .not (.bool x) = some (.bool (bnot x), h) := rfl
theorem un_neg : unV h .neg (.int k a) = some (.int k (ineg k a), h) := rfl
theorem conv_int (k' : IntKind) : convV h k' (.int k a) = some (.int k' (icnv k' a), h) := rfl
theorem shf_shl (k' : IntKind) : shfR h .shl (.int k a) (.int k' b) = if ilt b 0 = true then none else some (.int k (ishl k a b), h) := by
  simp only [shfR, shfV, ilt, decide_eq_true_eq]; split <;> rfl
theorem shf_shr (k' : IntKind) : shfR h .shr (.int k a) (.int k' b) = if ilt b 0 = true then none else some (.int k (ishr k a b), h) := by
  simp only [shfR, shfV, ilt, decide_eq_true_eq]; split <;> rfl
theorem mm_max (k' : IntKind) : mmR h true (.int k a) (.int k' b) = some (.int k (imax a b), h) := rfl
theorem mm_min (k' : IntKind) : mmR h false (.int k a) (.int k' b) = some (.int k (imin a b), h) := rfl
theorem pick_bool (v u : AV) : pickV h v u (.bool x) = some (if x = true then v else u, h) := rfl
theorem cell_int : cellEq false (.int k a) (.int k b) = some (ieq a b) := by simp [cellEq, ieq]
theorem cell_bool : cellEq true (.bool x) (.bool y) = some (beqB x y) := rfl
def consEq : Option Bool → Option Bool → Option Bool
  | some a, some b => some (band a b)
  | _, _ => none
theorem cells_eq (s : Bool) (ss : List Bool) (u v : AV) (us vs : List AV) : cellsEq (s :: ss) (u :: us) (v :: vs) = consEq (cellEq s u v) (cellsEq ss us vs) := by
  simp only [cellsEq, consEq]; cases cellEq s u v <;> cases cellsEq ss us vs <;> rfl
theorem cells_eq0 : cellsEq [] [] [] = some true := rfl
theorem consEq_some : consEq (some x) (some y) = some (band x y) := rfl
theorem eqV_agg (sh : List Bool) (l m : List AV) : eqV true sh (.agg l) (.agg m) = cellsEq sh l m := rfl
theorem eqV_one (sh : List Bool) (u v : AV) : eqV false sh u v = cellsEq sh [u] [v] := rfl
theorem eqR_t : eqR h true (some x) = some (.bool (bnot x), h) := rfl
theorem eqR_f : eqR h false (some x) = some (.bool x, h) := rfl
theorem ite_boolV {c : Prop} [Decidable c] : (if c then AV.bool x else AV.bool y) = .bool (if c then x else y) := by split <;> rfl
theorem ite_intV {c : Prop} [Decidable c] : (if c then AV.int k a else AV.int k b) = .int k (if c then a else b) := by split <;> rfl
theorem ite_bor : (if x = true then true else y) = bor x y := by cases x <;> rfl
theorem ite_band : (if x = true then y else false) = band x y := by cases x <;> rfl
theorem ite_born : (if x = false then y else true) = bor x y := by cases x <;> rfl
theorem ite_bandn : (if x = false then false else y) = band x y := by cases x <;> rfl
theorem ite_iif (a b : Int) : (if x = true then a else b) = iif x a b := rfl
theorem not_bool : (¬ x = true) = (x = false) := by cases x <;> simp
theorem not_boolf : (¬ x = false) = (x = true) := by cases x <;> simp
end
/-! Slices that came in or out: nil, or a list. -/
inductive FS (α : Type) where
  | nil
  | lst (l : List α)
def FS.l {α : Type} : FS α → List α
  | .nil => []
  | .lst l => l
class EncOK {α : Type} (w : outParam Nat) (e : α → List AV) : Prop where
  len : ∀ x, (e x).length = w
  flat : ∀ x, (e x).all AV.flat = true
def cellsE {α : Type} (e : α → List AV) (l : List α) : List AV := l.flatMap e
def encF {α : Type} (e : α → List AV) : FS α → AV
  | .nil => .nils
  | .lst l => .lst l.length (cellsE e l)
def flen {α : Type} (x : FS α) : Int := x.l.length
def getL {α : Type} (l : List α) (i : Int) : Option α := if 0 ≤ i ∧ i < l.length then l[i.toNat]? else none
def fget {α : Type} (x : FS α) (i : Int) : Option α := getL x.l i
def frest {α : Type} (e : α → List AV) (x : FS α) (i : Int) : List AV := cellsE e (x.l.drop (i.toNat + 1))
def fsl {α : Type} (x : FS α) (a b : Int) : Option (FS α) :=
  match x with
  | .nil => if a = 0 ∧ b = 0 then some .nil else none
  | .lst l => if 0 ≤ a ∧ a ≤ b ∧ b ≤ l.length then some (.lst ((l.drop a.toNat).take (b - a).toNat)) else none
section
variable {α : Type} {w : Nat} {e : α → List AV} [hE : EncOK w e]
include hE
theorem cellsE_len (l : List α) : (cellsE e l).length = l.length * w := by
  induction l with
  | nil => simp [cellsE]
  | cons x r ih =>
    have : cellsE e (x :: r) = e x ++ cellsE e r := rfl
    rw [this, List.length_append, ih, hE.len, List.length_cons, Nat.add_mul]
    omega
theorem cellsE_flat (l : List α) : (cellsE e l).all AV.flat = true := by
  induction l with
  | nil => rfl
  | cons x r ih =>
    have : cellsE e (x :: r) = e x ++ cellsE e r := rfl
    rw [this, List.all_append, ih, hE.flat]; rfl
theorem cellsE_drop (l : List α) (i : Nat) : (cellsE e l).drop (i * w) = cellsE e (l.drop i) := by
  induction l generalizing i with
  | nil => simp [cellsE]
  | cons x r ih =>
    cases i with
    | zero => simp
    | succ i =>
      have h1 : cellsE e (x :: r) = e x ++ cellsE e r := rfl
      have h2 : (i + 1) * w = (e x).length + i * w := by rw [hE.len, Nat.add_mul]; omega
      rw [h1, h2, ← List.drop_drop, List.drop_left, ih, List.drop_succ_cons]
theorem cellsE_take (l : List α) (i : Nat) : (cellsE e l).take (i * w) = cellsE e (l.take i) := by
  induction l generalizing i with
  | nil => simp [cellsE]
  | cons x r ih =>
    cases i with
    | zero => simp [cellsE]
    | succ i =>
      have h1 : cellsE e (x :: r) = e x ++ cellsE e r := rfl
      have h2 : (i + 1) * w = (e x).length + i * w := by rw [hE.len, Nat.add_mul]; omega
      rw [h1, h2, List.take_length_add_append, ih]
      rfl
theorem cut_cells (l : List α) (n : Nat) (hn : n = l.length * w) : cut (cellsE e l) 0 n = cellsE e l := by
  unfold cut
  rw [List.drop_zero, List.take_of_length_le (by rw [cellsE_len (e := e), hn]; exact Nat.le_refl _)]
theorem encF_flat (x : FS α) : (encF e x).flat = true := by cases x <;> rfl
theorem lenV_F (h : Heap) (x : FS α) : lenV h (encF e x) = some (flen x) := by cases x <;> rfl
theorem iaddr_F {x : FS α} {i : Int} {v : α} (hg : fget x i = some v) : ∀ (h : Heap) (k : IntKind), iaddrV h w (encF e x) (.int k i) = some (.rptr (e v ++ frest e x i)) := by
  intro h k
  unfold fget getL at hg
  split at hg
  · rename_i hb
    cases x with
    | nil => simp [FS.l] at hg
    | lst l =>
      simp only [FS.l] at hb hg
      simp only [encF, iaddrV, frest, FS.l]
      rw [if_pos hb, cellsE_drop]
      have h1 : l.drop i.toNat = v :: l.drop (i.toNat + 1) := by
        have hlt := (List.getElem?_eq_some_iff.1 hg).1
        rw [List.drop_eq_getElem_cons hlt]
        congr 1
        have := List.getElem?_eq_getElem hlt
        rw [hg] at this
        exact (Option.some.inj this).symm
      rw [h1]
      rfl
  · cases hg
theorem slice_F {x y : FS α} {a b : Int} (hs : fsl x a b = some y) : ∀ (h : Heap) (k k' : IntKind), sliceV h w (encF e x) (some (.int k a)) (some (.int k' b)) = some (encF e y) := by
  intro h k k'
  cases x with
  | nil =>
    simp only [fsl] at hs
    split at hs
    · rename_i hc; cases hs; simp only [encF, sliceV, boundV]; rw [if_pos hc]
    · cases hs
  | lst l =>
    simp only [fsl] at hs
    split at hs
    · rename_i hc
      cases hs
      simp only [encF, sliceV, boundV]
      rw [if_pos ⟨hc.1, hc.2.1, hc.2.2, cellsE_len l⟩]
      unfold cut
      rw [cellsE_drop, cellsE_take]
      congr 2
      rw [List.length_take, List.length_drop]
      omega
    · cases hs
theorem slice_Fhi {x y : FS α} {b : Int} (hs : fsl x 0 b = some y) (h : Heap) (k' : IntKind) : sliceV h w (encF e x) none (some (.int k' b)) = some (encF e y) := by
  have := slice_F (e := e) hs h .i64 k'
  cases x <;> exact this
theorem slice_Flo {x y : FS α} {a : Int} (hs : fsl x a (flen x) = some y) (h : Heap) (k : IntKind) : sliceV h w (encF e x) (some (.int k a)) none = some (encF e y) := by
  have := slice_F (e := e) hs h k .i64
  cases x <;> exact this
theorem elems_F (h : Heap) (x : FS α) : elemsV h w (encF e x) = some (cellsE e x.l) := by
  cases x with
  | nil => rfl
  | lst l => simp only [encF, elemsV, FS.l]; rw [if_pos (cellsE_len l)]
theorem cells_F (x : FS α) : (encF e x).cells = some [encF e x] := by cases x <;> rfl
theorem snap_F (h : Heap) (x : FS α) : snap h depth (encF e x) = some (encF e x, []) := snap_flat0 h 7 _ (encF_flat x)
theorem snap7_F (h : Heap) (x : FS α) : snap h 7 (encF e x) = some (encF e x, []) := snap_flat0 h 6 _ (encF_flat x)
end
/-! Rows of the call's own. -/
def osnoc {α : Type} (l : List α) (x : α) : List α := l ++ [x]
def oapp {α : Type} (l m : List α) : List α := l ++ m
/-- A list that is written out in the code. -/
def olit {α : Type} (l : List α) : List α := l
def oset {α : Type} (l : List α) (i : Int) (x : α) : List α := l.set i.toNat x
def orep {α : Type} (z : α) (n : Int) : List α := List.replicate n.toNat z
def pIdx (w : Nat) (i : Int) : Nat := i.toNat * w
def fits (bytes : Nat) (n : Int) : Bool := decide (n * bytes ≤ (room : Int)) && decide (n ≤ 9223372036854775807)
def olen {α : Type} (l : List α) : Int := l.length
section
theorem lenV_own {α : Type} (h : Heap) (g v off : Nat) (l : List α) : lenV h (.arr g v off l.length) = if curAny h g v = true then some (olen l) else none := rfl
variable {α : Type} {w : Nat} {e : α → List AV} [hE : EncOK w e]
theorem iaddr_own {l : List α} {i : Int} {x : α} (hg : getL l i = some x) (h : Heap) (k : IntKind) (g v : Nat) : iaddrV h w (.arr g v 0 l.length) (.int k i) = if curA h g v w = true then some (.ptr g v (pIdx w i)) else none := by
  unfold getL at hg
  split at hg
  · rename_i hb
    simp only [iaddrV, pIdx, Nat.zero_add]
    by_cases hc : curA h g v w = true
    · rw [if_pos ⟨hb.1, hb.2, hc⟩, if_pos hc]
    · rw [if_neg (fun hh => hc hh.2.2), if_neg hc]
  · cases hg
theorem getL_some {l : List α} {i : Int} {x : α} (hg : getL l i = some x) : ∃ n : Nat, i = n ∧ n < l.length ∧ l[n]? = some x := by
  unfold getL at hg
  split at hg
  · rename_i hb
    exact ⟨i.toNat, by omega, by omega, hg⟩
  · cases hg
theorem cells_split {l : List α} {n : Nat} {x : α} (hl : l[n]? = some x) : cellsE e l = cellsE e (l.take n) ++ (e x ++ cellsE e (l.drop (n + 1))) := by
  have hlt := (List.getElem?_eq_some_iff.1 hl).1
  have h1 : l = l.take n ++ x :: l.drop (n + 1) := by
    have hx : l[n] = x := (List.getElem?_eq_some_iff.1 hl).2
    rw [← hx, ← List.drop_eq_getElem_cons hlt, List.take_append_drop]
  have h2 : cellsE e (l.take n ++ x :: l.drop (n + 1)) = cellsE e (l.take n) ++ (e x ++ cellsE e (l.drop (n + 1))) := by simp [cellsE]
  rw [← h2, ← h1]
/-- A cell, or some, of an element. -/
theorem pack_own {l : List α} {i : Int} {x : α} (hg : getL l i = some x) (ag : Bool) (off n : Nat) (ho : off + n ≤ w) (hn0 : 0 < n) : pack ag (cellsE e l) (pIdx w i + off) n = pack ag (e x) off n := by
  obtain ⟨m, rfl, hm, hl⟩ := getL_some hg
  have hs := cells_split (e := e) hl
  have hlen : (cellsE e (l.take m)).length = m * w := by rw [cellsE_len (e := e), List.length_take, Nat.min_eq_left (by omega)]
  have hex := hE.len x
  have hp : pIdx w (m : Int) = m * w := by simp [pIdx]
  have hle : m * w + w ≤ l.length * w := by
    have : (m + 1) * w ≤ l.length * w := Nat.mul_le_mul_right w hm
    rw [Nat.add_mul] at this
    omega
  have d1 : ∀ o, o ≤ w → (cellsE e l).drop (m * w + o) = (e x).drop o ++ cellsE e (l.drop (m + 1)) := by
    intro o ho'
    rw [hs, ← List.drop_drop, ← hlen, List.drop_left, List.drop_append_of_le_length (by omega)]
  have c1 : m * w + off + n ≤ l.length * w := by omega
  have c2 : off + n ≤ (e x).length := by omega
  unfold pack
  rw [hp, cellsE_len (e := e), if_pos c1, if_pos c2]
  cases ag with
  | true =>
    simp only [if_true]
    congr 2
    unfold cut
    rw [d1 off (by omega), List.take_append_of_le_length (by rw [List.length_drop]; omega)]
  | false =>
    simp only [Bool.false_eq_true, if_false]
    have : (cellsE e l)[m * w + off]? = ((cellsE e l).drop (m * w + off))[0]? := by rw [List.getElem?_drop, Nat.add_zero]
    rw [this, d1 off (by omega), List.getElem?_append_left (by rw [List.length_drop]; omega), List.getElem?_drop, Nat.add_zero]
/-- A cell, or some, of an element is written. -/
theorem paste_own {l : List α} {i : Int} {x y : α} (hg : getL l i = some x) {off : Nat} {c : List AV} (ho : off + c.length ≤ w) (hy : paste (e x) off c = e y) : paste (cellsE e l) (pIdx w i + off) c = cellsE e (oset l i y) := by
  obtain ⟨m, rfl, hm, hl⟩ := getL_some hg
  have hs := cells_split (e := e) hl
  have hlen : (cellsE e (l.take m)).length = m * w := by rw [cellsE_len (e := e), List.length_take, Nat.min_eq_left (by omega)]
  have hex := hE.len x
  have hp : pIdx w (m : Int) = m * w := by simp [pIdx]
  have hset : l.set m y = l.take m ++ y :: l.drop (m + 1) := List.set_eq_take_append_cons_drop .. ▸ by simp [hm]
  have hc : cellsE e (l.take m ++ y :: l.drop (m + 1)) = cellsE e (l.take m) ++ (e y ++ cellsE e (l.drop (m + 1))) := by simp [cellsE]
  unfold oset
  rw [Int.toNat_natCast, hset, hc, ← hy, hp, hs]
  unfold paste
  have t1 : (cellsE e (l.take m) ++ (e x ++ cellsE e (l.drop (m + 1)))).take (m * w + off) = cellsE e (l.take m) ++ (e x).take off := by
    rw [← hlen, List.take_length_add_append, List.take_append_of_le_length (by omega)]
  have t2 : (cellsE e (l.take m) ++ (e x ++ cellsE e (l.drop (m + 1)))).drop (m * w + off + c.length) = (e x).drop (off + c.length) ++ cellsE e (l.drop (m + 1)) := by
    rw [Nat.add_assoc, ← hlen, ← List.drop_drop, List.drop_left, List.drop_append_of_le_length (by omega)]
  rw [t1, t2]
  simp only [List.append_assoc]
theorem cells_osnoc (l : List α) (x : α) : cellsE e (osnoc l x) = cellsE e l ++ e x := by simp [osnoc, cellsE]
theorem cells_oapp (l m : List α) : cellsE e (oapp l m) = cellsE e l ++ cellsE e m := by simp [oapp, cellsE]
/-- Append: one element to a row of the call's own. -/
theorem app_one {l : List α} {x : α} {bytes : Nat} (hf : fits bytes (olen l + 1) = true) (hw : 0 < w) (g0 : Nat) {h : Heap} {g v : Nat} {el : TypeId} {y : AV} (hg : h g = some (.arr v w el (cellsE e l) false)) (h1 : lenV h y = some 1)
    (h2 : elemsV h w y = some (e x)) : appV h g0 w bytes el (.arr g v 0 l.length) y = some (.arr g (v + 1) 0 (osnoc l x).length, upd h g (some (.arr (v + 1) w el (cellsE e (osnoc l x)) false))) := by
  simp only [fits, Bool.and_eq_true, olen] at hf
  have hne : e x ≠ [] := by
    intro hn
    have := hE.len x
    rw [hn] at this
    simp at this
    omega
  simp only [appV, h1, h2, hg]
  rw [if_pos ⟨trivial, trivial, trivial, by rw [cellsE_len (e := e)]; simp⟩, if_neg hne, if_pos ⟨of_decide_eq_true hf.1, of_decide_eq_true hf.2⟩, cells_osnoc]
  simp [osnoc]
theorem app_nil1 {x : α} {bytes : Nat} (hf : fits bytes 1 = true) (hw : 0 < w) {h : Heap} {g0 : Nat} {el : TypeId} {y : AV} (hg : h g0 = none) (h1 : lenV h y = some 1) (h2 : elemsV h w y = some (e x)) :
    appV h g0 w bytes el .nils y = some (.arr g0 1 0 (osnoc ([] : List α) x).length, upd h g0 (some (.arr 1 w el (cellsE e (osnoc [] x)) false))) := by
  simp only [fits, Bool.and_eq_true] at hf
  have hne : e x ≠ [] := by
    intro hn
    have := hE.len x
    rw [hn] at this
    simp at this
    omega
  simp only [appV, h1, h2]
  rw [if_neg hne, if_pos ⟨of_decide_eq_true hf.1, of_decide_eq_true hf.2⟩]
  simp [newVer, hg, osnoc, cellsE]
/-- Append: a slice to a row of the call's own. -/
def bump (v : Nat) (n : Int) : Nat := if n = 0 then v else v + 1
theorem cells_nilI (m : List α) (hw : 0 < w) : cellsE e m = [] ↔ m = [] := by
  refine ⟨fun h => ?_, fun h => by rw [h]; rfl⟩
  have := cellsE_len (e := e) m
  rw [h] at this
  simp only [List.length_nil] at this
  rcases Nat.mul_eq_zero.1 this.symm with h3 | h3
  · exact List.length_eq_zero_iff.1 h3
  · omega
theorem app_many {l m : List α} {bytes : Nat} (hf : fits bytes (olen l + olen m) = true) (hw : 0 < w) (g0 : Nat) {h : Heap} {g v : Nat} {el : TypeId} {y : AV} (hg : h g = some (.arr v w el (cellsE e l) false)) (h1 : lenV h y = some (olen m))
    (h2 : elemsV h w y = some (cellsE e m)) : appV h g0 w bytes el (.arr g v 0 l.length) y = some (.arr g (bump v (olen m)) 0 (oapp l m).length, upd h g (some (.arr (bump v (olen m)) w el (cellsE e (oapp l m)) false))) := by
  simp only [fits, Bool.and_eq_true, olen] at hf
  simp only [appV, h1, h2, hg, olen]
  rw [if_pos ⟨trivial, trivial, trivial, by rw [cellsE_len (e := e)]; simp⟩]
  by_cases hm : m = []
  · subst hm
    rw [if_pos (show cellsE e ([] : List α) = [] from rfl)]
    have hb : bump v (([] : List α).length : Int) = v := rfl
    rw [hb]
    simp only [oapp, List.append_nil]
    congr 2
    funext z
    unfold upd
    by_cases hz : z = g
    · rw [if_pos hz, hz, hg]
    · rw [if_neg hz]
  · have hb : bump v (m.length : Int) = v + 1 := by
      unfold bump
      rw [if_neg]
      intro h0
      exact hm (List.length_eq_zero_iff.1 (by omega))
    rw [if_neg (fun h => hm ((cells_nilI m hw).1 h)), if_pos ⟨of_decide_eq_true hf.1, of_decide_eq_true hf.2⟩, hb, cells_oapp]
    simp [oapp]
theorem pack_own0 {l : List α} {i : Int} {x : α} (hg : getL l i = some x) (ag : Bool) (n : Nat) (ho : n ≤ w) (hn0 : 0 < n) : pack ag (cellsE e l) (pIdx w i) n = pack ag (e x) 0 n := by
  have := pack_own (e := e) hg ag 0 n (by omega) hn0
  rwa [Nat.add_zero] at this
theorem paste_own0 {l : List α} {i : Int} {x y : α} (hg : getL l i = some x) {c : List AV} (ho : c.length ≤ w) (hy : paste (e x) 0 c = e y) : paste (cellsE e l) (pIdx w i) c = cellsE e (oset l i y) := by
  have := paste_own (e := e) hg (off := 0) (by omega) hy
  rwa [Nat.add_zero] at this
theorem in_own {l : List α} {i : Int} {x : α} (hg : getL l i = some x) (off n : Nat) (ho : off + n ≤ w) : pIdx w i + off + n ≤ l.length * w := by
  obtain ⟨m, rfl, hm, hl⟩ := getL_some hg
  have hp : pIdx w (m : Int) = m * w := by simp [pIdx]
  have : (m + 1) * w ≤ l.length * w := Nat.mul_le_mul_right w hm
  rw [Nat.add_mul] at this
  rw [hp]
  omega
theorem in_own0 {l : List α} {i : Int} {x : α} (hg : getL l i = some x) (n : Nat) (ho : n ≤ w) : pIdx w i + n ≤ l.length * w := by
  have := in_own (w := w) hg 0 n (by omega)
  omega
def mkOK (bytes : Nat) (n m : Int) : Bool := decide (0 ≤ n ∧ n ≤ m ∧ m * bytes ≤ (room : Int) ∧ m ≤ 9223372036854775807)
theorem cells_rep (z : α) (n : Nat) : cellsE e (List.replicate n z) = repeatL (e z) n := by
  induction n with
  | zero => rfl
  | succ n ih => rw [List.replicate_succ, repeatL, ← ih]; rfl
theorem mk_own {z : α} {bytes : Nat} {n m : Int} (hok : mkOK bytes n m = true) {h : Heap} {g0 : Nat} (hg : h g0 = none) (el : TypeId) (k k' : IntKind) :
    mkV h g0 w bytes el (e z) (.int k n) (.int k' m) = some (.arr g0 0 0 (orep z n).length, upd h g0 (some (.arr 0 w el (cellsE e (orep z n)) false))) := by
  simp only [mkV]
  rw [if_pos (of_decide_eq_true hok)]
  simp only [newVer, hg, orep, cells_rep, List.length_replicate]
theorem app_nilm {m : List α} {bytes : Nat} (hne : m ≠ []) (hf : fits bytes (olen m) = true) (hw : 0 < w) {h : Heap} {g0 : Nat} {el : TypeId} {y : AV} (hg : h g0 = none) (h1 : lenV h y = some (olen m)) (h2 : elemsV h w y = some (cellsE e m)) :
    appV h g0 w bytes el .nils y = some (.arr g0 1 0 (oapp ([] : List α) m).length, upd h g0 (some (.arr 1 w el (cellsE e (oapp [] m)) false))) := by
  simp only [fits, Bool.and_eq_true, olen] at hf
  simp only [appV, h1, h2, olen]
  rw [if_neg (fun h => hne ((cells_nilI m hw).1 h)), if_pos ⟨of_decide_eq_true hf.1, of_decide_eq_true hf.2⟩]
  simp [newVer, hg, oapp]
theorem app_manyF {l : List α} {x : FS α} {bytes : Nat} (hf : fits bytes (olen l + flen x) = true) (hw : 0 < w) (g0 : Nat) {h : Heap} {g v : Nat} {el : TypeId} (hg : h g = some (.arr v w el (cellsE e l) false)) :
    appV h g0 w bytes el (.arr g v 0 l.length) (encF e x) = some (.arr g (bump v (flen x)) 0 (oapp l x.l).length, upd h g (some (.arr (bump v (flen x)) w el (cellsE e (oapp l x.l)) false))) :=
  app_many (e := e) (m := x.l) hf hw g0 hg (lenV_F h x) (elems_F h x)
theorem app_nilF0 {x : FS α} {bytes : Nat} (hz : ieq (flen x) 0 = true) (h : Heap) (g0 : Nat) (el : TypeId) : appV h g0 w bytes el .nils (encF e x) = some (.nils, h) := by
  have h0 : x.l = [] := by
    have : flen x = 0 := by simpa [ieq] using hz
    unfold flen at this
    exact List.length_eq_zero_iff.1 (by omega)
  simp only [appV, lenV_F, elems_F]
  rw [if_pos (by rw [h0]; rfl)]
theorem app_nilF1 {x : FS α} {bytes : Nat} (hz : ieq (flen x) 0 = false) (hf : fits bytes (flen x) = true) (hw : 0 < w) {h : Heap} {g0 : Nat} {el : TypeId} (hg : h g0 = none) :
    appV h g0 w bytes el .nils (encF e x) = some (.arr g0 1 0 (oapp ([] : List α) x.l).length, upd h g0 (some (.arr 1 w el (cellsE e (oapp [] x.l)) false))) := by
  refine app_nilm (e := e) (m := x.l) (fun h0 => ?_) hf hw hg (lenV_F h x) (elems_F h x)
  have : flen x = 0 := by unfold flen; rw [h0]; rfl
  simp [ieq, this] at hz
end
end Go.Vv
