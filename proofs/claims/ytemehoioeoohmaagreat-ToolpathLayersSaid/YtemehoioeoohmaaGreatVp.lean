/- Rules for walking code by rewriting: arithmetic stays closed, states are written out. Conditions: none. -/
import Derived.Test.YtemehoioeoohmaaGreatVo
namespace Go.Vv
open Go
open List renaming getElem?_eq_some_iff → Aa, drop_append_of_le_length → Ab, take_append_of_le_length → Ac, take_length_add_append → Ad, drop_eq_getElem_cons → Af, length_take → Ag, length_drop → Ah, length_eq_zero_iff → Ak, drop_drop → Al, drop_left → Am
open Nat renaming add_mul → Ae, add_zero → Aj, mul_le_mul_right → An
open Bool renaming and_eq_true → Ai
set_option linter.unusedSectionVars false
def iadd (k : IntKind) (a b : Int) : Int := k.wrap (a + b)
def isub (k : IntKind) (a b : Int) : Int := k.wrap (a - b)
def imul (k : IntKind) (a b : Int) : Int := k.wrap (a * b)
def iquo (k : IntKind) (a b : Int) : Int := k.wrap (a.tdiv b)
def irem (a b : Int) : Int := a.tmod b
def iand (k : IntKind) (a b : Int) : Int := bits .and k a b
def ior (k : IntKind) (a b : Int) : Int := bits .or k a b
def ixor (k : IntKind) (a b : Int) : Int := bits .xor k a b
def iandn (k : IntKind) (a b : Int) : Int := bits .andNot k a b
def ineg (k : IntKind) (a : Int) : Int := k.wrap (0 - a)
def icnv (k : IntKind) (a : Int) : Int := k.wrap a
def ishl (k : IntKind) (a b : Int) : Int := k.wrap (a * 2 ^ (min b.toNat k.bits))
def ishr (k : IntKind) (a b : Int) : Int := a.fdiv (2 ^ (min b.toNat k.bits))
def imax (a b : Int) : Int := mmV true a b
def imin (a b : Int) : Int := mmV false a b
def ieq (a b : Int) : Bool := a == b
def ine (a b : Int) : Bool := a != b
def ilt (a b : Int) : Bool := a < b
def ile (a b : Int) : Bool := a ≤ b
def igt (a b : Int) : Bool := a > b
def ige (a b : Int) : Bool := a ≥ b
def beqB (a b : Bool) : Bool := a == b
def bnot (a : Bool) : Bool := !a
def band (a b : Bool) : Bool := a && b
def bor (a b : Bool) : Bool := a || b
def iif {α : Type} (c : Bool) (a b : α) : α := if c = true then a else b
section
variable (h : Heap) (k : IntKind) (a b : Int) (x y : Bool)
theorem bin_add : Jim .add k a b = some (.int k (iadd k a b)) := rfl
theorem bin_sub : Jim .sub k a b = some (.int k (isub k a b)) := rfl
theorem bin_mul : Jim .mul k a b = some (.int k (imul k a b)) := rfl
theorem bin_quo : Jim .quo k a b = if ieq b 0 = true then none else some (.int k (iquo k a b)) := by
 simp only [Jim, ieq, beq_iff_eq]; rfl
theorem bin_rem : Jim .rem k a b = if ieq b 0 = true then none else some (.int k (irem a b)) := by
 simp only [Jim, ieq, beq_iff_eq]; rfl
theorem bin_and : Jim .and k a b = some (.int k (iand k a b)) := rfl
theorem bin_or : Jim .or k a b = some (.int k (ior k a b)) := rfl
theorem bin_xor : Jim .xor k a b = some (.int k (ixor k a b)) := rfl
theorem bin_andn : Jim .andNot k a b = some (.int k (iandn k a b)) := rfl
theorem bin_eql : Jim .eql k a b = some (.bool (ieq a b)) := rfl
theorem bin_neq : Jim .neq k a b = some (.bool (ine a b)) := rfl
theorem bin_lss : Jim .lss k a b = some (.bool (ilt a b)) := rfl
theorem bin_leq : Jim .leq k a b = some (.bool (ile a b)) := rfl
theorem bin_gtr : Jim .gtr k a b = some (.bool (igt a b)) := rfl
theorem bin_geq : Jim .geq k a b = some (.bool (ige a b)) := rfl
theorem binV_int (op : BinOp) : binV h op (.int k a) (.int k b) = retV h (Jim op k a b) := by simp [binV]
theorem J83 (v : AV) : retV h (some v) = some (v, h) := rfl
theorem J2g : retV h none = none := rfl
theorem J2u (n : Int) : retI h (some n) = some (.int .i64 n, h) := rfl
theorem un_not : unV h .not (.bool x) = some (.bool (bnot x), h) := rfl
theorem un_neg : unV h .neg (.int k a) = some (.int k (ineg k a), h) := rfl
theorem conv_int (k' : IntKind) : convV h k' (.int k a) = some (.int k' (icnv k' a), h) := rfl
theorem shf_shl (k' : IntKind) : shfR h .shl (.int k a) (.int k' b) = if ilt b 0 = true then none else some (.int k (ishl k a b), h) := by
 simp only [shfR, shfV, ilt, decide_eq_true_eq]; split <;> rfl
theorem shf_shr (k' : IntKind) : shfR h .shr (.int k a) (.int k' b) = if ilt b 0 = true then none else some (.int k (ishr k a b), h) := by
 simp only [shfR, shfV, ilt, decide_eq_true_eq]; split <;> rfl
theorem mm_max (k' : IntKind) : mmR h true (.int k a) (.int k' b) = some (.int k (imax a b), h) := rfl
theorem mm_min (k' : IntKind) : mmR h false (.int k a) (.int k' b) = some (.int k (imin a b), h) := rfl
theorem J7q (v u : AV) : pickV h v u (.bool x) = some (if x = true then v else u, h) := rfl
theorem cell_int : Jg6 false (.int k a) (.int k b) = some (ieq a b) := by simp [Jg6, ieq]
theorem J1g : Jg6 true (.bool x) (.bool y) = some (beqB x y) := rfl
def J45 : Option Bool → Option Bool → Option Bool
 | some a, some b => some (band a b)
 | _, _ => none
theorem cells_eq (s : Bool) (ss : List Bool) (u v : AV) (us vs : List AV) : Zl (s :: ss) (u :: us) (v :: vs) = J45 (Jg6 s u v) (Zl ss us vs) := by
 simp only [Zl, J45]; cases Jg6 s u v <;> cases Zl ss us vs <;> rfl
theorem J6f : Zl [] [] [] = some true := rfl
theorem Jvh : J45 (some x) (some y) = some (band x y) := rfl
theorem eqV_agg (sh : List Bool) (l m : List AV) : eqV true sh (.agg l) (.agg m) = Zl sh l m := rfl
theorem eqV_one (sh : List Bool) (u v : AV) : eqV false sh u v = Zl sh [u] [v] := rfl
theorem eqR_t : eqR h true (some x) = some (.bool (bnot x), h) := rfl
theorem eqR_f : eqR h false (some x) = some (.bool x, h) := rfl
theorem J7a {c : Prop} [Decidable c] : (if c then AV.bool x else AV.bool y) = .bool (if c then x else y) := by split <;> rfl
theorem ite_intV {c : Prop} [Decidable c] : (if c then AV.int k a else AV.int k b) = .int k (if c then a else b) := by split <;> rfl
theorem ite_bor : (if x = true then true else y) = bor x y := by cases x <;> rfl
theorem ite_band : (if x = true then y else false) = band x y := by cases x <;> rfl
theorem ite_born : (if x = false then y else true) = bor x y := by cases x <;> rfl
theorem J4c : (if x = false then false else y) = band x y := by cases x <;> rfl
theorem not_bool : (¬ x = true) = (x = false) := by cases x <;> simp
theorem J2r : (¬ x = false) = (x = true) := by cases x <;> simp
end
inductive FS (α : Type) where
 | nil
 | lst (l : List α)
def FS.l {α : Type} : FS α → List α
 | .nil => []
 | .lst l => l
class EncOK {α : Type} (w : outParam Nat) (e : α → List AV) : Prop where
 len : ∀ x, (e x).length = w
 flat : ∀ x, (e x).all AV.flat = true
def Jn {α : Type} (e : α → List AV) (l : List α) : List AV := l.flatMap e
def encF {α : Type} (e : α → List AV) : FS α → AV
 | .nil => .nils
 | .lst l => .lst l.length (Jn e l)
def flen {α : Type} (x : FS α) : Int := x.l.length
def getL {α : Type} (l : List α) (i : Int) : Option α := if 0 ≤ i ∧ i < l.length then l[i.toNat]? else none
def fget {α : Type} (x : FS α) (i : Int) : Option α := getL x.l i
def frest {α : Type} (e : α → List AV) (x : FS α) (i : Int) : List AV := Jn e (x.l.drop (i.toNat + 1))
def fsl {α : Type} (x : FS α) (a b : Int) : Option (FS α) :=
 match x with
 | .nil => if a = 0 ∧ b = 0 then some .nil else none
 | .lst l => if 0 ≤ a ∧ a ≤ b ∧ b ≤ l.length then some (.lst ((l.drop a.toNat).take (b - a).toNat)) else none
section
variable {α : Type} {w : Nat} {e : α → List AV} [hE : EncOK w e]
include hE
theorem Jb6 (l : List α) : (Jn e l).length = l.length * w := by
 induction l with
 | nil => simp [Jn]
 | cons x r ih =>
  have : Jn e (x :: r) = e x ++ Jn e r := rfl
  rw [this, List.length_append, ih, hE.len, List.length_cons, Ae]
  omega
theorem Jqs (l : List α) : (Jn e l).all AV.flat = true := by
 induction l with
 | nil => rfl
 | cons x r ih =>
  have : Jn e (x :: r) = e x ++ Jn e r := rfl
  rw [this, List.all_append, ih, hE.flat]; rfl
theorem Jmb (l : List α) (i : Nat) : (Jn e l).drop (i * w) = Jn e (l.drop i) := by
 induction l generalizing i with
 | nil => simp [Jn]
 | cons x r ih =>
  cases i with
  | zero => simp
  | succ i =>
   have h1 : Jn e (x :: r) = e x ++ Jn e r := rfl
   have h2 : (i + 1) * w = (e x).length + i * w := by rw [hE.len, Ae]; omega
   rw [h1, h2, ← Al, Am, ih, List.drop_succ_cons]
theorem Jp2 (l : List α) (i : Nat) : (Jn e l).take (i * w) = Jn e (l.take i) := by
 induction l generalizing i with
 | nil => simp [Jn]
 | cons x r ih =>
  cases i with
  | zero => simp [Jn]
  | succ i =>
   have h1 : Jn e (x :: r) = e x ++ Jn e r := rfl
   have h2 : (i + 1) * w = (e x).length + i * w := by rw [hE.len, Ae]; omega
   rw [h1, h2, Ad, ih]
   rfl
theorem Jqz (l : List α) (n : Nat) (hn : n = l.length * w) : cut (Jn e l) 0 n = Jn e l := by
 unfold cut
 rw [List.drop_zero, List.take_of_length_le (by rw [Jb6 (e := e), hn]; exact Nat.le_refl _)]
theorem Jj1 (x : FS α) : (encF e x).flat = true := by cases x <;> rfl
theorem lenV_F (h : Heap) (x : FS α) : lenV h (encF e x) = some (flen x) := by cases x <;> rfl
theorem Kf {x : FS α} {i : Int} {v : α} (hg : fget x i = some v) : ∀ (h : Heap) (k : IntKind), Jij h w (encF e x) (.int k i) = some (.rptr (e v ++ frest e x i)) := by
 intro h k
 unfold fget getL at hg
 split at hg
 ·rename_i hb
  cases x with
  | nil => simp [FS.l] at hg
  | lst l =>
   simp only [FS.l] at hb hg
   simp only [encF, Jij, frest, FS.l]
   rw [if_pos hb, Jmb]
   have h1 : l.drop i.toNat = v :: l.drop (i.toNat + 1) := by
    have hlt := (Aa.1 hg).1
    rw [Af hlt]
    congr 1
    have := List.getElem?_eq_getElem hlt
    rw [hg] at this
    exact (Option.some.inj this).symm
   rw [h1]
   rfl
 ·cases hg
theorem Jpe {x y : FS α} {a b : Int} (hs : fsl x a b = some y) : ∀ (h : Heap) (k k' : IntKind), Jf2 h w (encF e x) (some (.int k a)) (some (.int k' b)) = some (encF e y) := by
 intro h k k'
 cases x with
 | nil =>
  simp only [fsl] at hs
  split at hs
  ·rename_i hc; cases hs; simp only [encF, Jf2, Jf8]; rw [if_pos hc]
  ·cases hs
 | lst l =>
  simp only [fsl] at hs
  split at hs
  ·rename_i hc
   cases hs
   simp only [encF, Jf2, Jf8]
   rw [if_pos ⟨hc.1, hc.2.1, hc.2.2, Jb6 l⟩]
   unfold cut
   rw [Jmb, Jp2]
   congr 2
   rw [Ag, Ah]
   omega
  ·cases hs
theorem Jk8 {x y : FS α} {b : Int} (hs : fsl x 0 b = some y) (h : Heap) (k' : IntKind) : Jf2 h w (encF e x) none (some (.int k' b)) = some (encF e y) := by
 have := Jpe (e := e) hs h .i64 k'
 cases x <;> exact this
theorem Jer {x y : FS α} {a : Int} (hs : fsl x a (flen x) = some y) (h : Heap) (k : IntKind) : Jf2 h w (encF e x) (some (.int k a)) none = some (encF e y) := by
 have := Jpe (e := e) hs h k .i64
 cases x <;> exact this
theorem J6a (h : Heap) (x : FS α) : Jfr h w (encF e x) = some (Jn e x.l) := by
 cases x with
 | nil => rfl
 | lst l => simp only [encF, Jfr, FS.l]; rw [if_pos (Jb6 l)]
theorem cells_F (x : FS α) : (encF e x).cells = some [encF e x] := by cases x <;> rfl
theorem snap_F (h : Heap) (x : FS α) : snap h depth (encF e x) = some (encF e x, []) := Jlt h 7 _ (Jj1 x)
theorem snap7_F (h : Heap) (x : FS α) : snap h 7 (encF e x) = some (encF e x, []) := Jlt h 6 _ (Jj1 x)
end
def Jtl {α : Type} (l : List α) (x : α) : List α := l ++ [x]
def oapp {α : Type} (l m : List α) : List α := l ++ m
def olit {α : Type} (l : List α) : List α := l
def oset {α : Type} (l : List α) (i : Int) (x : α) : List α := l.set i.toNat x
def orep {α : Type} (z : α) (n : Int) : List α := List.replicate n.toNat z
def pIdx (w : Nat) (i : Int) : Nat := i.toNat * w
def fits (bytes : Nat) (n : Int) : Bool := decide (n * bytes ≤ (room : Int)) && decide (n ≤ 9223372036854775807)
def olen {α : Type} (l : List α) : Int := l.length
section
variable {α : Type} {w : Nat} {e : α → List AV} [hE : EncOK w e]
theorem J7j {l : List α} {i : Int} {x : α} (hg : getL l i = some x) (h : Heap) (k : IntKind) (g v : Nat) : Jij h w (.arr g v 0 l.length) (.int k i) = if curA h g v w = true then some (.ptr g v (pIdx w i)) else none := by
 unfold getL at hg
 split at hg
 ·rename_i hb
  simp only [Jij, pIdx, Nat.zero_add]
  by_cases hc : curA h g v w = true
  ·rw [if_pos ⟨hb.1, hb.2, hc⟩, if_pos hc]
  ·rw [if_neg (fun hh => hc hh.2.2), if_neg hc]
 ·cases hg
theorem Jqr {l : List α} {i : Int} {x : α} (hg : getL l i = some x) : ∃ n : Nat, i = n ∧ n < l.length ∧ l[n]? = some x := by
 unfold getL at hg
 split at hg
 ·rename_i hb
  exact ⟨i.toNat, by omega, by omega, hg⟩
 ·cases hg
theorem Jmt {l : List α} {n : Nat} {x : α} (hl : l[n]? = some x) : Jn e l = Jn e (l.take n) ++ (e x ++ Jn e (l.drop (n + 1))) := by
 have hlt := (Aa.1 hl).1
 have h1 : l = l.take n ++ x :: l.drop (n + 1) := by
  have hx : l[n] = x := (Aa.1 hl).2
  rw [← hx, ← Af hlt, List.take_append_drop]
 have h2 : Jn e (l.take n ++ x :: l.drop (n + 1)) = Jn e (l.take n) ++ (e x ++ Jn e (l.drop (n + 1))) := by simp [Jn]
 rw [← h2, ← h1]
theorem Jwv {l : List α} {i : Int} {x : α} (hg : getL l i = some x) (ag : Bool) (off n : Nat) (ho : off + n ≤ w) (hn0 : 0 < n) : pack ag (Jn e l) (pIdx w i + off) n = pack ag (e x) off n := by
 obtain ⟨m, rfl, hm, hl⟩ := Jqr hg
 have hs := Jmt (e := e) hl
 have hlen : (Jn e (l.take m)).length = m * w := by rw [Jb6 (e := e), Ag, Nat.min_eq_left (by omega)]
 have hex := hE.len x
 have hp : pIdx w (m : Int) = m * w := by simp [pIdx]
 have hle : m * w + w ≤ l.length * w := by
  have : (m + 1) * w ≤ l.length * w := An w hm
  rw [Ae] at this
  omega
 have d1 : ∀ o, o ≤ w → (Jn e l).drop (m * w + o) = (e x).drop o ++ Jn e (l.drop (m + 1)) := by
  intro o ho'
  rw [hs, ← Al, ← hlen, Am, Ab (by omega)]
 have c1 : m * w + off + n ≤ l.length * w := by omega
 have c2 : off + n ≤ (e x).length := by omega
 unfold pack
 rw [hp, Jb6 (e := e), if_pos c1, if_pos c2]
 cases ag with
 | true =>
  simp only [if_true]
  congr 2
  unfold cut
  rw [d1 off (by omega), Ac (by rw [Ah]; omega)]
 | false =>
  simp only [Bool.false_eq_true, if_false]
  have : (Jn e l)[m * w + off]? = ((Jn e l).drop (m * w + off))[0]? := by rw [List.getElem?_drop, Aj]
  rw [this, d1 off (by omega), List.getElem?_append_left (by rw [Ah]; omega), List.getElem?_drop, Aj]
theorem Jt2 {l : List α} {i : Int} {x y : α} (hg : getL l i = some x) {off : Nat} {c : List AV} (ho : off + c.length ≤ w) (hy : paste (e x) off c = e y) : paste (Jn e l) (pIdx w i + off) c = Jn e (oset l i y) := by
 obtain ⟨m, rfl, hm, hl⟩ := Jqr hg
 have hs := Jmt (e := e) hl
 have hlen : (Jn e (l.take m)).length = m * w := by rw [Jb6 (e := e), Ag, Nat.min_eq_left (by omega)]
 have hex := hE.len x
 have hp : pIdx w (m : Int) = m * w := by simp [pIdx]
 have hset : l.set m y = l.take m ++ y :: l.drop (m + 1) := List.set_eq_take_append_cons_drop .. ▸ by simp [hm]
 have hc : Jn e (l.take m ++ y :: l.drop (m + 1)) = Jn e (l.take m) ++ (e y ++ Jn e (l.drop (m + 1))) := by simp [Jn]
 unfold oset
 rw [Int.toNat_natCast, hset, hc, ← hy, hp, hs]
 unfold paste
 have t1 : (Jn e (l.take m) ++ (e x ++ Jn e (l.drop (m + 1)))).take (m * w + off) = Jn e (l.take m) ++ (e x).take off := by
  rw [← hlen, Ad, Ac (by omega)]
 have t2 : (Jn e (l.take m) ++ (e x ++ Jn e (l.drop (m + 1)))).drop (m * w + off + c.length) = (e x).drop (off + c.length) ++ Jn e (l.drop (m + 1)) := by
  rw [Nat.add_assoc, ← hlen, ← Al, Am, Ab (by omega)]
 rw [t1, t2]
 simp only [List.append_assoc]
theorem Jwj (l : List α) (x : α) : Jn e (Jtl l x) = Jn e l ++ e x := by simp [Jtl, Jn]
theorem Jyn (l m : List α) : Jn e (oapp l m) = Jn e l ++ Jn e m := by simp [oapp, Jn]
theorem app_one {l : List α} {x : α} {bytes : Nat} (hf : fits bytes (olen l + 1) = true) (hw : 0 < w) (g0 : Nat) {h : Heap} {g v : Nat} {el : TypeId} {y : AV} (hg : h g = some (.arr v w el (Jn e l) false)) (h1 : lenV h y = some 1)
  (h2 : Jfr h w y = some (e x)) : appV h g0 w bytes el (.arr g v 0 l.length) y = some (.arr g (v + 1) 0 (Jtl l x).length, upd h g (some (.arr (v + 1) w el (Jn e (Jtl l x)) false))) := by
 simp only [fits, Ai, olen] at hf
 have hne : e x ≠ [] := by
  intro hn
  have := hE.len x
  rw [hn] at this
  simp at this
  omega
 simp only [appV, h1, h2, hg]
 rw [if_pos ⟨trivial, trivial, trivial, by rw [Jb6 (e := e)]; simp⟩, if_neg hne, if_pos ⟨of_decide_eq_true hf.1, of_decide_eq_true hf.2⟩, Jwj]
 simp [Jtl]
theorem app_nil1 {x : α} {bytes : Nat} (hf : fits bytes 1 = true) (hw : 0 < w) {h : Heap} {g0 : Nat} {el : TypeId} {y : AV} (hg : h g0 = none) (h1 : lenV h y = some 1) (h2 : Jfr h w y = some (e x)) :
  appV h g0 w bytes el .nils y = some (.arr g0 1 0 (Jtl ([] : List α) x).length, upd h g0 (some (.arr 1 w el (Jn e (Jtl [] x)) false))) := by
 simp only [fits, Ai] at hf
 have hne : e x ≠ [] := by
  intro hn
  have := hE.len x
  rw [hn] at this
  simp at this
  omega
 simp only [appV, h1, h2]
 rw [if_neg hne, if_pos ⟨of_decide_eq_true hf.1, of_decide_eq_true hf.2⟩]
 simp [Kj, hg, Jtl, Jn]
def bump (v : Nat) (n : Int) : Nat := if n = 0 then v else v + 1
theorem Jrk (m : List α) (hw : 0 < w) : Jn e m = [] ↔ m = [] := by
 refine ⟨fun h => ?_, fun h => by rw [h]; rfl⟩
 have := Jb6 (e := e) m
 rw [h] at this
 simp only [List.length_nil] at this
 rcases Nat.mul_eq_zero.1 this.symm with h3 | h3
 ·exact Ak.1 h3
 ·omega
theorem app_many {l m : List α} {bytes : Nat} (hf : fits bytes (olen l + olen m) = true) (hw : 0 < w) (g0 : Nat) {h : Heap} {g v : Nat} {el : TypeId} {y : AV} (hg : h g = some (.arr v w el (Jn e l) false)) (h1 : lenV h y = some (olen m))
  (h2 : Jfr h w y = some (Jn e m)) : appV h g0 w bytes el (.arr g v 0 l.length) y = some (.arr g (bump v (olen m)) 0 (oapp l m).length, upd h g (some (.arr (bump v (olen m)) w el (Jn e (oapp l m)) false))) := by
 simp only [fits, Ai, olen] at hf
 simp only [appV, h1, h2, hg, olen]
 rw [if_pos ⟨trivial, trivial, trivial, by rw [Jb6 (e := e)]; simp⟩]
 by_cases hm : m = []
 ·subst hm
  rw [if_pos (show Jn e ([] : List α) = [] from rfl)]
  have hb : bump v (([] : List α).length : Int) = v := rfl
  rw [hb]
  simp only [oapp, List.append_nil]
  congr 2
  funext z
  unfold upd
  by_cases hz : z = g
  ·rw [if_pos hz, hz, hg]
  ·rw [if_neg hz]
 ·have hb : bump v (m.length : Int) = v + 1 := by
   unfold bump
   rw [if_neg]
   intro h0
   exact hm (Ak.1 (by omega))
  rw [if_neg (fun h => hm ((Jrk m hw).1 h)), if_pos ⟨of_decide_eq_true hf.1, of_decide_eq_true hf.2⟩, hb, Jyn]
  simp [oapp]
theorem J5i {l : List α} {i : Int} {x : α} (hg : getL l i = some x) (ag : Bool) (n : Nat) (ho : n ≤ w) (hn0 : 0 < n) : pack ag (Jn e l) (pIdx w i) n = pack ag (e x) 0 n := by
 have := Jwv (e := e) hg ag 0 n (by omega) hn0
 rwa [Aj] at this
theorem Jy8 {l : List α} {i : Int} {x y : α} (hg : getL l i = some x) {c : List AV} (ho : c.length ≤ w) (hy : paste (e x) 0 c = e y) : paste (Jn e l) (pIdx w i) c = Jn e (oset l i y) := by
 have := Jt2 (e := e) hg (off := 0) (by omega) hy
 rwa [Aj] at this
theorem in_own {l : List α} {i : Int} {x : α} (hg : getL l i = some x) (off n : Nat) (ho : off + n ≤ w) : pIdx w i + off + n ≤ l.length * w := by
 obtain ⟨m, rfl, hm, hl⟩ := Jqr hg
 have hp : pIdx w (m : Int) = m * w := by simp [pIdx]
 have : (m + 1) * w ≤ l.length * w := An w hm
 rw [Ae] at this
 rw [hp]
 omega
theorem in_own0 {l : List α} {i : Int} {x : α} (hg : getL l i = some x) (n : Nat) (ho : n ≤ w) : pIdx w i + n ≤ l.length * w := by
 have := in_own (w := w) hg 0 n (by omega)
 omega
def mkOK (bytes : Nat) (n m : Int) : Bool := decide (0 ≤ n ∧ n ≤ m ∧ m * bytes ≤ (room : Int) ∧ m ≤ 9223372036854775807)
theorem J2j (z : α) (n : Nat) : Jn e (List.replicate n z) = Jc8 (e z) n := by
 induction n with
 | zero => rfl
 | succ n ih => rw [List.replicate_succ, Jc8, ← ih]; rfl
theorem mk_own {z : α} {bytes : Nat} {n m : Int} (hok : mkOK bytes n m = true) {h : Heap} {g0 : Nat} (hg : h g0 = none) (el : TypeId) (k k' : IntKind) :
  mkV h g0 w bytes el (e z) (.int k n) (.int k' m) = some (.arr g0 0 0 (orep z n).length, upd h g0 (some (.arr 0 w el (Jn e (orep z n)) false))) := by
 simp only [mkV]
 rw [if_pos (of_decide_eq_true hok)]
 simp only [Kj, hg, orep, J2j, List.length_replicate]
end
end Go.Vv
