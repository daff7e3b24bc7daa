/- Toolpath: valid tracks, their reversal and rotation, in plain Lean. Conditions: none. -/
import Derived.Test.YtemehoioeoohmaaMa
namespace Go.Proofs.Ytemehoioeoohmaa
open Go Go.Vv Go.Proofs
set_option linter.unusedSimpArgs false
set_option linter.unusedVariables false
set_option linter.unusedSectionVars false
theorem Jt2 {x : Int} (h0 : -8191 ≤ x) (h1 : x ≤ 8191) : 0 ≤ x * x ∧ x * x ≤ 67092481 := by
 have h2 : x.natAbs ≤ 8191 := by omega
 have h3 : x * x = ((x.natAbs * x.natAbs : Nat) : Int) := by rw [Int.natCast_mul]; exact Int.natAbs_mul_self.symm
 have h4 : x.natAbs * x.natAbs ≤ 8191 * 8191 := Nat.mul_le_mul h2 h2
 rw [h3]; omega
def nb (a b : Ja) : Prop := Yi a b = true
theorem J26 {a b : Ja} (ha : InR a) (hb : InR b) : nb a b ↔ (a.X - b.X) * (a.X - b.X) + (a.Y - b.Y) * (a.Y - b.Y) = 1 := by
 obtain ⟨a1, a2, a3, a4⟩ := ha
 obtain ⟨b1, b2, b3, b4⟩ := hb
 have s1 := Jt2 (x := a.X - b.X) (by omega) (by omega)
 have s2 := Jt2 (x := a.Y - b.Y) (by omega) (by omega)
 unfold nb Yi
 rw [Zj (a := a.X) (b := b.X) (by omega) (by omega), Zj (a := a.Y) (b := b.Y) (by omega) (by omega), Jyz (a := a.X - b.X) (b := a.X - b.X) (by omega) (by omega), Jyz (a := a.Y - b.Y) (b := a.Y - b.Y) (by omega) (by omega),
  Jbb (by omega) (by omega), Jif]
theorem Jza {a b : Ja} (ha : InR a) (hb : InR b) (h : nb a b) : nb b a := by
 rw [J26 ha hb] at h
 rw [J26 hb ha, show b.X - a.X = -(a.X - b.X) by omega, show b.Y - a.Y = -(a.Y - b.Y) by omega, Int.neg_mul_neg, Int.neg_mul_neg]
 exact h
theorem Jpq (c : Ja) : jd c = true ↔ InR c := by
 unfold InR; simp only [Jb, jd, Jbl, Jbc, jv]; exact ⟨fun h => ⟨h.1.1.1, h.1.1.2, h.1.2, h.2⟩, fun h => ⟨⟨⟨h.1, h.2.1⟩, h.2.2.1⟩, h.2.2.2⟩⟩
def Chn (l : List Ja) : Prop := ∀ (i : Nat) (a b : Ja), l[i]? = some a → l[i + 1]? = some b → nb a b
structure VT (t : Jd) : Prop where
 role : 1 ≤ t.Role ∧ t.Role ≤ 7
 len : 1 ≤ t.Cells.l.length ∧ t.Cells.l.length ≤ 65536
 inr : ∀ c ∈ t.Cells.l, InR c
 chn : Chn t.Cells.l
 cls : t.Closed = true → t.Cells.l.length ≠ 1 → ∀ a b, t.Cells.l[t.Cells.l.length - 1]? = some a → t.Cells.l[0]? = some b → nb a b
def GoodC (l : List Ja) (i : Nat) : Prop := ∀ c, l[i]? = some c → InR c ∧ ∀ p, 0 < i → l[i - 1]? = some p → nb p c
theorem Jqv {l : List Ja} : (∀ i, i < l.length → GoodC l i) ↔ (∀ c ∈ l, InR c) ∧ Chn l := by
 refine ⟨fun h => ⟨fun c hc => ?_, fun i a b ha hb => ?_⟩, fun ⟨h1, h2⟩ i hi c hc => ⟨h1 c (List.mem_of_getElem? hc), fun p h0 hp => ?_⟩⟩
 ·obtain ⟨i, hi, e⟩ := List.getElem_of_mem hc
  exact (h i hi c (by rw [List.getElem?_eq_getElem hi, e])).1
 ·exact (h (i + 1) (List.getElem?_eq_some_iff.1 hb).1 b hb).2 a (by omega) (by simpa using ha)
 ·exact h2 (i - 1) p c hp (by rw [show i - 1 + 1 = i by omega]; exact hc)
theorem Jjp (t : Jd) (hL : t.Cells.l.length ≤ 1000000) : ∃ b, Ja0 t = some b ∧ (b = true ↔ VT t) := by
 unfold Ja0
 by_cases hc : bor (bor (bor (ilt t.Role 1) (igt t.Role 7)) (ilt (flen t.Cells) 1)) (igt (flen t.Cells) 65536) = true
 ·refine ⟨false, by rw [if_pos hc], by simp, fun h => ?_⟩
  exfalso
  rw [Jaw, Jaw, Jaw, jv, Jew, jv, Jew, Js] at hc
  have h1 := h.role; have h2 := h.len
  omega
 ·rw [if_neg hc]
  rw [Jaw, Jaw, Jaw, jv, Jew, jv, Jew, Js] at hc
  obtain ⟨x, e, hr⟩ := Jjc (z3 t (flen t.Cells) t.Cells (flen t.Cells)) t.Cells.l.length (by omega) (fun i => GoodC t.Cells.l i) (fun _ => .inl false) (.inr ())
   (fun i hi hg => by
    have g1 := Qb hi
    have c1 : ilt (i : Int) (flen t.Cells) = true := Ye (by rw [Js]; omega)
    by_cases h0 : 0 < i
    ·have g2 := Jha h0 hi (by omega)
     have c2 : igt (i : Int) 0 = true := Jea (by omega)
     by_cases hgr : jd t.Cells.l[i] = true
     ·refine Jad (bnot (Yi (t.Cells.l[i - 1]'(by omega)) t.Cells.l[i])) ?_ ?_
      ·rw [Jce]; try rw [Jb]
       refine ⟨fun h1 h2 => h1 ((h2 _ (List.getElem?_eq_getElem hi)).2 _ h0 (List.getElem?_eq_getElem (by omega))), fun h1 h2 => h1 fun c hc => ?_⟩
       rw [List.getElem?_eq_getElem hi] at hc
       cases hc
       refine ⟨(Jpq _).1 hgr, fun p _ hp => ?_⟩
       rw [List.getElem?_eq_getElem (by omega)] at hp
       cases hp
       exact h2
      ·simp only [Jb, z3, c1, if_true, g1, hgr, Y4, Zn, Ja3, c2, g2, Yp, Option.getD_some, Jdx, zf (i := i) (by omega)]
     ·rw [Bool.not_eq_true] at hgr
      refine Jad true ⟨fun _ h2 => ?_, fun _ => rfl⟩ ?_
      ·have := (Jpq _).2 (h2 _ (List.getElem?_eq_getElem hi)).1
       rw [hgr] at this; cases this
      ·simp only [Jb, z3, c1, if_true, g1, hgr, Zn, Y4, Jb7, Zi, Jg5, c2]
    ·have c2 : igt (i : Int) 0 = false := Jgc (by omega)
     refine Jad (bnot (jd t.Cells.l[i])) ?_ ?_
     ·rw [Jce, Jpq]
      refine ⟨fun h1 h2 => h1 (h2 _ (List.getElem?_eq_getElem hi)).1, fun h1 h2 => h1 fun c hc => ?_⟩
      rw [List.getElem?_eq_getElem hi] at hc
      cases hc
      exact ⟨h2, fun p h3 => (h0 h3).elim⟩
     ·have hb : ∀ x y, bor x (band false y) = x := fun x y => by cases x <;> rfl
      simp only [Jb, z3, c1, if_true, g1, c2, Jd6, Zi, hb, zf (i := i) (by omega)])
   (fun _ => by
    have c1 : ilt ((t.Cells.l.length : Nat) : Int) (flen t.Cells) = false := Yf (by rw [Js]; omega)
    simp only [Jb, z3, c1, if_false, Bool.false_eq_true])
  rw [e]; try rw [Jb]
  rcases hr with ⟨rfl, hall⟩ | ⟨i, hi, rfl, hn, -⟩
  ·obtain ⟨k1, k2⟩ := Jqv.1 hall
   have hpos : 0 < t.Cells.l.length := by omega
   have gl : fget t.Cells (isub .i64 (flen t.Cells) 1) = some (t.Cells.l[t.Cells.l.length - 1]'(by omega)) := by
    rw [Zj (by rw [Js]; omega) (by rw [Js]; omega), Js, show (t.Cells.l.length : Int) - 1 = ((t.Cells.l.length - 1 : Nat) : Int) by omega]
    exact Qb (by omega)
   have gf : fget t.Cells 0 = some (t.Cells.l[0]) := Qb (i := 0) hpos
   simp only [Jb, gl, gf]
   have base : ∀ b, (b = true ↔ (t.Closed = true → t.Cells.l.length ≠ 1 → nb (t.Cells.l[t.Cells.l.length - 1]'(by omega)) t.Cells.l[0])) → (b = true ↔ VT t) := fun b hb => by
    rw [hb]; try rw [Jb]
    refine ⟨fun h => ⟨by omega, by omega, k1, k2, fun c1 c2 a b ha hb => ?_⟩, fun h c1 c2 => h.cls c1 c2 _ _ (List.getElem?_eq_getElem (by omega)) (List.getElem?_eq_getElem hpos)⟩
    rw [List.getElem?_eq_getElem (by omega)] at ha hb
    cases ha; cases hb
    exact h c1 c2
   by_cases hcl : t.Closed = true
   ·by_cases h1 : t.Cells.l.length = 1
    ·have e1 : ieq (flen t.Cells) 1 = true := Jhh (by rw [Js]; omega)
     refine ⟨true, by simp only [Jb, hcl, e1, Y4, Jdx, Y4, Zi, Jg5], base true ⟨fun _ _ h => (h h1).elim, fun _ => rfl⟩⟩
    ·have e1 : ieq (flen t.Cells) 1 = false := Jem (by rw [Js]; omega)
     refine ⟨Yi (t.Cells.l[t.Cells.l.length - 1]'(by omega)) t.Cells.l[0], by simp only [Jb, hcl, e1, Y4, Jdx, Zn, Yp, Option.getD_some], base _ ⟨fun h _ _ => h, fun h => h hcl h1⟩⟩
   ·rw [Bool.not_eq_true] at hcl
    refine ⟨true, by simp only [Jb, hcl, Zn, Jg5, Y4, Zi], base true ⟨fun _ h => (by rw [hcl] at h; cases h), fun _ => rfl⟩⟩
  ·refine ⟨false, rfl, by simp, fun h => ?_⟩
   exact (hn (Jqv.2 ⟨h.inr, h.chn⟩ i hi)).elim
theorem VT.valid {t : Jd} (h : VT t) : Ja0 t = some true := by
 obtain ⟨b, e, hb⟩ := Jjp t (by have := h.len; omega)
 rw [e, hb.2 h]
theorem Chn.reverse {l : List Ja} (hi : ∀ c ∈ l, InR c) (h : Chn l) : Chn l.reverse := by
 intro i a b ha hb
 have h1 := (List.getElem?_eq_some_iff.1 hb).1
 rw [List.length_reverse] at h1
 rw [List.getElem?_reverse (by omega)] at ha hb
 have hb' : l[l.length - 1 - (i + 1)]? = some b := hb
 exact Jza (hi b (List.mem_of_getElem? hb)) (hi a (List.mem_of_getElem? ha)) (h _ b a hb' (by rw [show l.length - 1 - (i + 1) + 1 = l.length - 1 - i by omega]; exact ha))
theorem VT.rev {t : Jd} (h : VT t) {x : FS Ja} (hx : x.l = t.Cells.l.reverse) : VT ⟨t.Role, t.Closed, x⟩ := by
 refine ⟨h.role, by simp only [Jb, hx, List.length_reverse]; exact h.len, fun c hc => h.inr c (by simpa [hx] using hc), by simp only [Jb, hx]; exact h.chn.reverse h.inr, fun c1 c2 a b ha hb => ?_⟩
 simp only [Jb, hx, List.length_reverse] at c2 ha hb
 have hl := h.len
 rw [List.getElem?_reverse (by omega)] at ha hb
 have ha' : t.Cells.l[0]? = some a := by rw [← ha]; congr 1; omega
 exact Jza (h.inr b (List.mem_of_getElem? hb)) (h.inr a (List.mem_of_getElem? ha)) (h.cls c1 c2 b a (by rw [← hb]; congr 1) ha')
theorem VT.copy {t : Jd} (h : VT t) {x : FS Ja} (hx : x.l = t.Cells.l) : VT ⟨t.Role, t.Closed, x⟩ :=
 ⟨h.role, by simp only [Jb, hx]; exact h.len, by simp only [Jb, hx]; exact h.inr, by simp only [Jb, hx]; exact h.chn, by simp only [Jb, hx]; exact h.cls⟩
theorem VT.rot {t : Jd} (h : VT t) (hc : t.Closed = true) {k : Nat} (hk : k < t.Cells.l.length) {x : FS Ja} (hx : x.l = t.Cells.l.drop k ++ t.Cells.l.take k) : VT ⟨t.Role, t.Closed, x⟩ := by
 have hl := h.len
 have hlen : x.l.length = t.Cells.l.length := by rw [hx, List.length_append, List.length_drop, List.length_take]; omega
 have get : ∀ i, i < t.Cells.l.length → x.l[i]? = t.Cells.l[(i + k) % t.Cells.l.length]? := by
  intro i hi
  rw [hx]; try rw [Jb]
  by_cases h1 : i + k < t.Cells.l.length
  ·rw [List.getElem?_append_left (by rw [List.length_drop]; omega), List.getElem?_drop, Nat.mod_eq_of_lt h1, Nat.add_comm k i]
  ·rw [List.getElem?_append_right (by rw [List.length_drop]; omega), List.length_drop, List.getElem?_take, if_pos (by omega)]
   congr 1
   rw [Nat.mod_eq_sub_mod (by omega), Nat.mod_eq_of_lt (by omega)]
   omega
 have step : t.Cells.l.length ≠ 1 → ∀ (j : Nat) (a b : Ja), j < t.Cells.l.length → t.Cells.l[j]? = some a → t.Cells.l[(j + 1) % t.Cells.l.length]? = some b → nb a b := by
  intro h1 j a b hj ha hb
  by_cases h2 : j + 1 < t.Cells.l.length
  ·rw [Nat.mod_eq_of_lt h2] at hb; exact h.chn j a b ha hb
  ·have : j + 1 = t.Cells.l.length := by omega
   rw [this, Nat.mod_self] at hb
   exact h.cls hc h1 a b (by rw [← ha]; congr 1; omega) hb
 refine ⟨h.role, by simp only [Jb, hlen]; exact h.len, fun c hcm => h.inr c ?_, fun i a b ha hb => ?_, fun c1 c2 a b ha hb => ?_⟩
 ·simp only [Jb, hx, List.mem_append] at hcm
  rcases hcm with hcm | hcm
  ·exact List.mem_of_mem_drop hcm
  ·exact List.mem_of_mem_take hcm
 ·have hi := (List.getElem?_eq_some_iff.1 hb).1
  simp only [Jb, hlen] at hi
  simp only at ha hb
  rw [get i (by omega)] at ha
  rw [get (i + 1) hi] at hb
  refine step (by omega) _ a b (Nat.mod_lt _ (by omega)) ha ?_
  rw [Nat.mod_add_mod, show i + k + 1 = i + 1 + k by omega]
  exact hb
 ·simp only [Jb, hlen] at c2 ha hb
  rw [get _ (by omega)] at ha
  rw [get 0 (by omega)] at hb
  refine step c2 _ a b (Nat.mod_lt _ (by omega)) ha ?_
  rw [Nat.mod_add_mod, show t.Cells.l.length - 1 + k + 1 = k + t.Cells.l.length by omega, Nat.add_mod_right]
  rw [Nat.zero_add] at hb
  exact hb
end Go.Proofs.Ytemehoioeoohmaa
namespace Go.Proofs.Ytemehoioeoohmaa
open Go Go.Vv Go.Proofs
set_option linter.unusedSimpArgs false
set_option linter.unusedVariables false
set_option linter.unusedSectionVars false
theorem Jl0 {α : Type} {x : FS α} (h : 0 < x.l.length) : x = .lst x.l := by
 cases x with
 | nil => simp [FS.l] at h
 | lst l => rfl
theorem Jo0 {bytes : Nat} {n : Int} (h0 : 0 ≤ n) (h1 : n ≤ 1000000) (hb : bytes ≤ 64) : mkOK bytes 0 n = true := by
 unfold mkOK
 have h2 : n * (bytes : Int) ≤ 1000000 * 64 := Int.mul_le_mul h1 (by omega) (by omega) (by omega)
 simp only [Jb, room]
 simp
 omega
theorem Jra {α : Type} (z : α) : frep z 0 = .lst [] := rfl
theorem Jr8 (x : FS Ja) (hL : x.l.length ≤ 1000000) : jx x = some (.lst x.l.reverse) := by
 obtain ⟨r, e, hr⟩ := Xd (body := Xw x) (fun s => ∃ n : Nat, s.2 = (n : Int) - 1 ∧ n ≤ x.l.length ∧ s.1.l = (x.l.drop n).reverse) (fun s => (s.2 + 1).toNat) (fun r => r.l = x.l.reverse)
  (by
   rintro ⟨acc, i⟩ ⟨n, h1, h2, h3⟩
   simp only at h1 h2 h3 ⊢
   subst h1
   cases n with
   | zero =>
    right
    refine ⟨acc, ?_, by rw [h3]; rfl⟩
    have c : ige ((0 : Nat) - 1 : Int) 0 = false := by rw [← Bool.not_eq_true, Jbc]; omega
    simp only [Jb, Xw, c, if_false, Bool.false_eq_true]
   | succ n =>
    left
    have c : ige (((n + 1 : Nat) : Int) - 1) 0 = true := by rw [Jbc]; omega
    have e0 : ((n + 1 : Nat) : Int) - 1 = (n : Int) := by omega
    have g := Qb (x := x) (i := n) (by omega)
    have hlen : acc.l.length ≤ 1000000 := by rw [h3, List.length_reverse, List.length_drop]; omega
    have f : fits 16 (flen acc + 1) = true := Xx (by rw [Js]; omega) (by rw [Js]; omega) (by omega)
    refine ⟨(Y0 acc x.l[n], (n : Int) - 1), ?_, ⟨n, rfl, by omega, ?_⟩, by simp only; omega⟩
    ·rw [e0] at c ⊢
     simp only [Jb, Xw, c, if_true, g, f]
     rw [Zj (by omega) (by omega)]
    ·simp only [Jb, Jap, h3]
     rw [List.drop_eq_getElem_cons (by omega : n < x.l.length), List.reverse_cons])
  bigN (.lst [], (x.l.length : Int) - 1) ⟨x.l.length, rfl, Nat.le_refl _, by simp [FS.l]⟩ (Xn (by simp only; omega))
 unfold jx
 rw [if_pos (Jo0 (by rw [Js]; omega) (by rw [Js]; omega) (by omega)), Jra, Zj (by rw [Js]; omega) (by rw [Js]; omega), Js, e]; try simp only [Jb]
 simp [flst, hr]
theorem Jla {α : Type} {l : List α} {a b : Nat} (h1 : a ≤ b) (h2 : b ≤ l.length) : fsl (.lst l) (a : Int) (b : Int) = some (.lst ((l.drop a).take (b - a))) := by
 show (if 0 ≤ (a : Int) ∧ (a : Int) ≤ b ∧ (b : Int) ≤ l.length then some (FS.lst ((l.drop (a : Int).toNat).take ((b : Int) - a).toNat)) else none) = _
 rw [if_pos ⟨by omega, by omega, by omega⟩]
 have : ((b : Int) - a).toNat = b - a := by omega
 rw [this]; rfl
theorem Jwd (x : FS Ja) (hp : 0 < x.l.length) (hL : x.l.length ≤ 1000000) (k : Nat) (hk : k ≤ x.l.length) : Zx x k = some (.lst (x.l.drop k ++ x.l.take k)) := by
 obtain ⟨l, rfl⟩ : ∃ l, x = .lst l := ⟨_, Jl0 hp⟩
 simp only [Jb, FS.l_lst] at *
 have s1 : fsl (.lst l) (k : Int) (flen (.lst l)) = some (.lst (l.drop k)) := by
  show fsl (.lst l) (k : Int) ((l.length : Nat) : Int) = _
  rw [Jla hk (Nat.le_refl _), List.take_of_length_le (by rw [List.length_drop]; omega)]
 have s2 : fsl (.lst l) 0 (k : Int) = some (.lst (l.take k)) := by
  show fsl (.lst l) ((0 : Nat) : Int) (k : Int) = _
  rw [Jla (by omega) hk]; rfl
 have d : (l.drop k).length ≤ 1000000 := by rw [List.length_drop]; omega
 have tk : (l.take k).length ≤ 1000000 := by rw [List.length_take]; omega
 unfold Zx
 rw [s1, Jb, s2, Jb]
 rw [Jra, if_pos (Jo0 (by rw [Js]; omega) (by rw [Js, FS.l_lst]; omega) (by omega)),
  if_pos (Xx (by simp only [Jb, Js, FS.l_lst]; omega) (by simp only [Jb, Js, FS.l_lst, List.length_nil]; omega) (by omega)),
  if_pos (Xx (by simp only [Jb, Js]; omega) (by simp only [Jb, Js, Jf5, FS.l_lst, List.nil_append]; omega) (by omega))]
 rfl
theorem Jot {t : Jd} (h : VT t) : Jb5 t = some ⟨t.Role, t.Closed, .lst t.Cells.l.reverse⟩ := by
 have hl := h.len
 unfold Jb5
 rw [h.valid]; try simp only [Jb]
 simp only [Jb, Y4, if_false, Bool.false_eq_true, Jr8 t.Cells (by omega)]
theorem J3v {t : Jd} (h : VT t) (hc : t.Closed = true) (k : Nat) (hk : k < t.Cells.l.length) : Jdh t k = some ⟨t.Role, true, .lst (t.Cells.l.drop k ++ t.Cells.l.take k)⟩ := by
 have hl := h.len
 have e0 : ieq (flen t.Cells) 0 = false := Jem (by rw [Js]; omega)
 have m1 : irem (k : Int) (flen t.Cells) = k := by unfold irem; rw [Js]; exact Int.tmod_eq_of_lt (by omega) (by omega)
 have m2 : irem (iadd .i64 (k : Int) (flen t.Cells)) (flen t.Cells) = k := by
  rw [Jbb (by rw [Js]; omega) (by rw [Js]; omega)]
  unfold irem
  rw [Js, Int.tmod_eq_emod_of_nonneg (by omega), Int.add_emod_right]
  exact Int.emod_eq_of_lt (by omega) (by omega)
 unfold Jdh
 rw [h.valid]; try simp only [Jb]
 simp only [Jb, Y4, if_false, Bool.false_eq_true, hc, if_true, e0, m1, m2, Jwd t.Cells (by omega) (by omega) k (by omega)]
theorem J5w {t : Jd} (h : VT t) : Jdi t = some ⟨t.Role, t.Closed, .lst t.Cells.l⟩ := by
 have hl := h.len
 unfold Jdi
 rw [if_pos (Xx (by simp only [Jb, Js, Jdf]; omega) (by simp only [Jb, Js, Jdf, List.length_nil]; omega) (by omega))]; try simp only [Jb]
 rfl
def cp (t : Jd) : Jd := ⟨t.Role, t.Closed, .lst t.Cells.l⟩
theorem VT.cp {t : Jd} (h : VT t) : VT (cp t) := h.copy rfl
theorem cp_of {t : Jd} (h : VT t) : cp t = t := by
 have := Jl0 (x := t.Cells) (by have := h.len; omega)
 cases t; simp only [Jb, cp] at *; rw [← this]
theorem Jur (x : FS Jd) (hv : ∀ t ∈ x.l, VT t) (hL : x.l.length ≤ 1000000) : ∃ y, Jdb x = some y ∧ y.l = x.l := by
 obtain ⟨r, e, hr⟩ := Xd (body := Jbi x (flen x)) (fun s => ∃ n : Nat, s.2 = n ∧ n ≤ x.l.length ∧ s.1.l = x.l.take n) (fun s => (x.l.length - s.2).toNat) (fun r => r.l = x.l)
  (by
   rintro ⟨acc, i⟩ ⟨n, h1, h2, h3⟩
   simp only at h1 h2 h3 ⊢
   subst h1
   by_cases hn : n < x.l.length
   ·left
    have c : ilt (n : Int) (flen x) = true := Ye (by rw [Js]; omega)
    have g := Qb hn
    have hvt := hv _ (List.getElem_mem hn)
    have f : fits 40 (flen acc + 1) = true := Xx (by rw [Js]; omega) (by rw [Js, h3, List.length_take]; omega) (by omega)
    refine ⟨(Y0 acc (cp x.l[n]), ((n + 1 : Nat) : Int)), ?_, ⟨n + 1, rfl, hn, ?_⟩, by simp only; omega⟩
    ·simp only [Jb, Jbi, c, if_true, g, hvt.valid, J5w hvt, f, zf (i := n) (by omega)]; rfl
    ·simp only [Jb, Jap, h3, cp_of hvt]; rw [List.take_succ_eq_append_getElem hn]
   ·right
    have hn' : n = x.l.length := by omega
    subst hn'
    have c : ilt ((x.l.length : Nat) : Int) (flen x) = false := Yf (by rw [Js]; omega)
    exact ⟨acc, by simp only [Jb, Jbi, c, if_false, Bool.false_eq_true], by rw [h3, List.take_length]⟩)
  bigN (.nil, 0) ⟨0, rfl, by omega, rfl⟩ (Xn (by simp only; omega))
 unfold Jdb
 exact ⟨r, by rw [e]; rfl, hr⟩
theorem Jsm {t : Jd} (h : VT t) : ∃ a b, Jbk t = some ⟨a, b⟩ ∧ t.Cells.l[0]? = some a ∧ t.Cells.l[t.Cells.l.length - 1]? = some b ∧ InR a ∧ InR b := by
 have hl := h.len
 have g1 : fget t.Cells 0 = some (t.Cells.l[0]'(by omega)) := Qb (i := 0) (by omega)
 have g2 : fget t.Cells (isub .i64 (flen t.Cells) 1) = some (t.Cells.l[t.Cells.l.length - 1]'(by omega)) := by
  rw [Zj (by rw [Js]; omega) (by rw [Js]; omega), Js, show (t.Cells.l.length : Int) - 1 = ((t.Cells.l.length - 1 : Nat) : Int) by omega]
  exact Qb (by omega)
 refine ⟨_, _, ?_, List.getElem?_eq_getElem (by omega), List.getElem?_eq_getElem (by omega), h.inr _ (List.getElem_mem _), h.inr _ (List.getElem_mem _)⟩
 unfold Jbk
 rw [g1, g2]; try simp only [Jb]
structure Best (p : Ja) (l : List Ja) (k : Nat) (d : Int) : Prop where
 here : ∃ c, l[k]? = some c ∧ d = Km p c
 le : ∀ (i : Nat) (c : Ja), l[i]? = some c → d ≤ Km p c
 lt : ∀ (i : Nat) (c : Ja), i < k → l[i]? = some c → d < Km p c
theorem Jq5 (p : Ja) (x : FS Ja) (h0 : 0 < x.l.length) (hL : x.l.length ≤ 1000000) : ∃ (k : Nat) (d : Int), Ky (zr p x (flen x)) bigN (0, Km p x.l[0], 0) = some (((k : Nat) : Int), d) ∧ Best p x.l k d := by
 obtain ⟨r, e, k, d, rfl, hr⟩ := Xd (body := zr p x (flen x)) (fun s => ∃ n k : Nat, s.2.2 = n ∧ n ≤ x.l.length ∧ s.1 = k ∧ (∃ c, x.l[k]? = some c ∧ s.2.1 = Km p c) ∧ (∀ (i : Nat) c, i < n → x.l[i]? = some c → s.2.1 ≤ Km p c) ∧ (∀ (i : Nat) c, i < k → x.l[i]? = some c → s.2.1 < Km p c) ∧ (k < n ∨ k = 0))
  (fun s => (x.l.length - s.2.2).toNat) (fun r => ∃ (k : Nat) (d : Int), r = ((k : Int), d) ∧ Best p x.l k d)
  (by
   rintro ⟨kk, d, i⟩ ⟨n, k, h1, h2, h3, h4, h5, h6, h7⟩
   simp only at h1 h2 h3 h4 h5 h6 ⊢
   subst h1 h3
   by_cases hn : n < x.l.length
   ·left
    have c : ilt (n : Int) (flen x) = true := Ye (by rw [Js]; omega)
    have g := Qb hn
    by_cases hlt : Km p x.l[n] < d
    ·refine ⟨((n : Int), Km p x.l[n], ((n + 1 : Nat) : Int)), by simp only [Jb, zr, c, if_true, g, Ye hlt, zf (i := n) (by omega)], ⟨n + 1, n, rfl, hn, rfl, ⟨_, List.getElem?_eq_getElem hn, rfl⟩, fun j c hj hc => ?_, fun j c hj hc => ?_, .inl (by omega)⟩, by simp only; omega⟩
     ·by_cases hjn : j = n
      ·subst hjn; rw [List.getElem?_eq_getElem hn] at hc; cases hc; exact Int.le_refl _
      ·have := h5 j c (by omega) hc; simp only; omega
     ·have := h5 j c hj hc; simp only; omega
    ·refine ⟨((k : Int), d, ((n + 1 : Nat) : Int)), by simp only [Jb, zr, c, if_true, g, Yf hlt, if_false, Bool.false_eq_true, zf (i := n) (by omega)], ⟨n + 1, k, rfl, hn, rfl, h4, fun j c hj hc => ?_, h6, by omega⟩, by simp only; omega⟩
     by_cases hjn : j = n
     ·subst hjn; rw [List.getElem?_eq_getElem hn] at hc; cases hc; simp only; omega
     ·exact h5 j c (by omega) hc
   ·right
    have c : ilt (n : Int) (flen x) = false := Yf (by rw [Js]; omega)
    exact ⟨((k : Int), d), by simp only [Jb, zr, c, if_false, Bool.false_eq_true], k, d, rfl, h4, fun j c hc => h5 j c (by have := (List.getElem?_eq_some_iff.1 hc).1; omega) hc, h6⟩)
  bigN (0, Km p x.l[0], 0) ⟨0, 0, rfl, by omega, rfl, ⟨_, List.getElem?_eq_getElem h0, rfl⟩, fun i c hi => by omega, fun i c hi => by omega, .inr rfl⟩ (Xn (by simp only; omega))
 exact ⟨k, d, e, hr⟩
def Jes (t : Jd) : List Ja := if t.Closed = true then t.Cells.l else match t.Cells.l[0]?, t.Cells.l[t.Cells.l.length - 1]? with
 | some a, some b => [a, b]
 | _, _ => []
theorem best_ok {t : Jd} (h : VT t) (p : Ja) : ∃ (k : Nat) (d : Int), Jds p t = some ((k : Int), d) ∧ Best p (Jes t) k d ∧ k < (Jes t).length := by
 have hl := h.len
 have fin : ∀ {l : List Ja} {k : Nat} {d : Int}, Best p l k d → k < l.length := fun hb => by
  obtain ⟨c, hc, _⟩ := hb.here; exact (List.getElem?_eq_some_iff.1 hc).1
 by_cases hc : t.Closed = true
 ·obtain ⟨k, d, e, hb⟩ := Jq5 p t.Cells (by omega) (by omega)
  have g1 : fget t.Cells 0 = some (t.Cells.l[0]'(by omega)) := Qb (i := 0) (by omega)
  have hf : Jes t = t.Cells.l := by unfold Jes; rw [if_pos hc]
  refine ⟨k, d, ?_, by rw [hf]; exact hb, by rw [hf]; exact fin hb⟩
  unfold Jds
  rw [if_pos hc, g1]; try simp only [Jb]
  simp only [Jb, e]
 ·obtain ⟨a, b, e1, ha, hb, -, -⟩ := Jsm h
  have hf : Jes t = [a, b] := by unfold Jes; rw [if_neg hc, ha, hb]
  obtain ⟨k, d, e, hbb⟩ := Jq5 p (flit [a, b]) (by simp [Jdf]) (by simp [Jdf])
  refine ⟨k, d, ?_, by rw [hf]; exact hbb, by rw [hf]; exact fin hbb⟩
  have g1 : fget (flit [a, b]) 0 = some a := rfl
  unfold Jds
  rw [if_neg hc, e1]; try simp only [Jb]
  simp only [Jb, g1]
  simp only [Jb, Jdf, List.getElem_cons_zero] at e
  simp only [Jb, e]
def vr (t : Jd) (k : Nat) : Jd :=
 if t.Closed = true then ⟨t.Role, true, .lst (t.Cells.l.drop k ++ t.Cells.l.take k)⟩ else if k = 1 then ⟨t.Role, t.Closed, .lst t.Cells.l.reverse⟩ else t
theorem Jws {t : Jd} (h : VT t) {k : Nat} (hk : k < (Jes t).length) : Jc4 t k = some (vr t k) := by
 unfold Jc4 vr
 by_cases hc : t.Closed = true
 ·have hk' : k < t.Cells.l.length := by unfold Jes at hk; rwa [if_pos hc] at hk
  simp only [Jb, hc, if_true, J3v h hc k hk']
 ·simp only [Jb, hc, if_false, Bool.false_eq_true]
  by_cases h1 : k = 1
  ·subst h1
   have c : ieq ((1 : Nat) : Int) 1 = true := rfl
   have hf : t.Closed = false := by simpa using hc
   simp only [Jb, c, if_true, Jot h, hf]
  ·have c : ieq (k : Int) 1 = false := Jem (by omega)
   simp only [Jb, c, if_false, Bool.false_eq_true, h1]
theorem vr_ok {t : Jd} (h : VT t) {k : Nat} (hk : k < (Jes t).length) : VT (vr t k) ∧ (vr t k).Role = t.Role ∧ (vr t k).Closed = t.Closed ∧ (vr t k).Cells.l.Perm t.Cells.l := by
 unfold vr
 by_cases hc : t.Closed = true
 ·have hk' : k < t.Cells.l.length := by unfold Jes at hk; rwa [if_pos hc] at hk
  rw [if_pos hc]
  refine ⟨?_, rfl, hc.symm, ?_⟩
  ·have := h.rot hc hk' (x := .lst (t.Cells.l.drop k ++ t.Cells.l.take k)) rfl
   rwa [hc] at this
  ·exact List.perm_append_comm.trans (by rw [List.take_append_drop])
 ·rw [if_neg hc]
  by_cases h1 : k = 1
  ·rw [if_pos h1]
   exact ⟨h.rev rfl, rfl, rfl, List.reverse_perm _⟩
  ·rw [if_neg h1]
   exact ⟨h, rfl, rfl, .refl _⟩
end Go.Proofs.Ytemehoioeoohmaa
namespace Go.Proofs.Ytemehoioeoohmaa
open Go Go.Vv Go.Proofs
set_option linter.unusedSimpArgs false
set_option linter.unusedVariables false
set_option linter.unusedSectionVars false
theorem Jk3 {a b : Ja} (ha : InR a) (hb : InR b) : Km a b = ((dist a b : Nat) : Int) := by
 unfold InR at ha hb
 unfold Km dist
 rw [Zj (a := a.X) (b := b.X) (by omega) (by omega), Zj (a := b.X) (b := a.X) (by omega) (by omega), Zj (a := a.Y) (b := b.Y) (by omega) (by omega), Zj (a := b.Y) (b := a.Y) (by omega) (by omega), Jlm, Jlm,
  Jbb (by omega) (by omega)]
 omega
theorem far_nn {a b : Ja} (ha : InR a) (hb : InR b) : 0 ≤ Km a b := by rw [Jk3 ha hb]; omega
theorem Jwu {t : Jd} (h : VT t) : ∀ c ∈ Jes t, InR c := by
 intro c hc
 unfold Jes at hc
 split at hc
 ·exact h.inr c hc
 ·split at hc
  ·rename_i a b ha hb
   simp only [Jb, List.mem_cons, List.not_mem_nil, or_false] at hc
   rcases hc with rfl | rfl
   ·exact h.inr _ (List.mem_of_getElem? ha)
   ·exact h.inr _ (List.mem_of_getElem? hb)
  ·cases hc
structure PickN (p : Ja) (l : List Jd) (n at_ k : Nat) (d : Int) : Prop where
 lt : at_ < n
 here : ∃ t, l[at_]? = some t ∧ Best p (Jes t) k d ∧ k < (Jes t).length
 le : ∀ (i : Nat) (t : Jd), i < n → l[i]? = some t → ∀ c ∈ Jes t, d ≤ Km p c
 sm : ∀ (i : Nat) (t : Jd), i < at_ → l[i]? = some t → ∀ c ∈ Jes t, d < Km p c
theorem J1y {p : Ja} (hp : InR p) (x out : FS Jd) (hv : ∀ t ∈ x.l, VT t) (hL : x.l.length ≤ 1000000) (h0 : 0 < x.l.length) :
  ∃ (a k : Nat) (d : Int), Ky (zd p (flen x)) bigN (x, out, 0, 0, (-1), 0) = some (x, out, (a : Int), (k : Int)) ∧ PickN p x.l x.l.length a k d := by
 obtain ⟨r, e, a, k, d, rfl, hr⟩ := Xd (body := zd p (flen x))
  (fun s => s.1 = x ∧ s.2.1 = out ∧ ∃ n : Nat, s.2.2.2.2.2 = n ∧ n ≤ x.l.length ∧ ((n = 0 ∧ s.2.2.2.2.1 = -1) ∨ ∃ (a k : Nat), s.2.2.1 = a ∧ s.2.2.2.1 = k ∧ 0 ≤ s.2.2.2.2.1 ∧ PickN p x.l n a k s.2.2.2.2.1))
  (fun s => (x.l.length - s.2.2.2.2.2).toNat) (fun r => ∃ (a k : Nat) (d : Int), r = (x, out, (a : Int), (k : Int)) ∧ PickN p x.l x.l.length a k d)
  (by
   rintro ⟨xx, oo, a0, k0, d, i⟩ ⟨h1, h2, n, h3, h4, h5⟩
   simp only at h1 h2 h3 h4 h5 ⊢
   subst h1 h2 h3
   by_cases hn : n < xx.l.length
   ·left
    have c : ilt (n : Int) (flen xx) = true := Ye (by rw [Js]; omega)
    have g := Qb hn
    have hvt := hv _ (List.getElem_mem hn)
    obtain ⟨j, m, eb, hb, hj⟩ := best_ok hvt p
    have hbin := Jwu hvt
    have hm0 : 0 ≤ m := by
     obtain ⟨c, hc, rfl⟩ := hb.here
     exact far_nn hp (hbin c (List.mem_of_getElem? hc))
    have hle : ∀ c ∈ Jes xx.l[n], m ≤ Km p c := fun c hc => by
     obtain ⟨q, hq⟩ := List.getElem?_of_mem hc
     exact hb.le q c hq
    by_cases hnew : bor (ilt d 0) (ilt m d) = true
    ·refine ⟨(xx, oo, (n : Int), (j : Int), m, ((n + 1 : Nat) : Int)), by simp only [Jb, zd, c, if_true, g, eb, hnew, zf (i := n) (by omega)], ⟨rfl, rfl, n + 1, rfl, hn, .inr ⟨n, j, rfl, rfl, hm0, by omega, ⟨_, List.getElem?_eq_getElem hn, hb, hj⟩, fun i t hi ht c hc => ?_, fun i t hi ht c hc => ?_⟩⟩, by simp only; omega⟩
     ·rw [Jaw, jv, jv] at hnew
      by_cases hin : i = n
      ·subst hin; rw [List.getElem?_eq_getElem hn] at ht; cases ht; exact hle _ hc
      ·rcases h5 with ⟨rfl, _⟩ | ⟨a, k, _, _, hd, hpk⟩
       ·omega
       ·have := hpk.le i t (by omega) ht c hc
        simp only at *; omega
     ·rw [Jaw, jv, jv] at hnew
      rcases h5 with ⟨rfl, _⟩ | ⟨a, k, _, _, hd, hpk⟩
      ·omega
      ·have := hpk.le i t hi ht c hc
       simp only at *; omega
    ·rw [Bool.not_eq_true] at hnew
     have hnew' : ¬ (d < 0 ∨ m < d) := by rw [← Bool.not_eq_true, Jaw, jv, jv] at hnew; exact hnew
     rcases h5 with ⟨rfl, hd⟩ | ⟨a, k, rfl, rfl, hd, hpk⟩
     ·omega
     ·refine ⟨(xx, oo, (a : Int), (k : Int), d, ((n + 1 : Nat) : Int)), by simp only [Jb, zd, c, if_true, g, eb, hnew, if_false, Bool.false_eq_true, zf (i := n) (by omega)], ⟨rfl, rfl, n + 1, rfl, hn, .inr ⟨a, k, rfl, rfl, hd, by have := hpk.lt; omega, hpk.here, fun i t hi ht c hc => ?_, hpk.sm⟩⟩, by simp only; omega⟩
      by_cases hin : i = n
      ·subst hin; rw [List.getElem?_eq_getElem hn] at ht; cases ht
       have := hle _ hc; simp only at *; omega
      ·exact hpk.le i t (by omega) ht c hc
   ·right
    have hn' : n = xx.l.length := by omega
    subst hn'
    have c : ilt ((xx.l.length : Nat) : Int) (flen xx) = false := Yf (by rw [Js]; omega)
    rcases h5 with ⟨h, _⟩ | ⟨a, k, rfl, rfl, hd, hpk⟩
    ·omega
    ·exact ⟨(xx, oo, (a : Int), (k : Int)), by simp only [Jb, zd, c, if_false, Bool.false_eq_true], a, k, d, rfl, hpk⟩)
  bigN (x, out, 0, 0, (-1), 0) ⟨rfl, rfl, 0, rfl, by omega, .inl ⟨rfl, rfl⟩⟩ (Xn (by simp only; omega))
 exact ⟨a, k, d, e, hr⟩
inductive Gre : Ja → List Jd → List Jd → Prop where
 | nil (p : Ja) : Gre p [] []
 | cons (p q : Ja) (l r : List Jd) (a k : Nat) (d : Int) (t : Jd) (hp : PickN p l l.length a k d) (ht : l[a]? = some t) (hq : (vr t k).Cells.l[(vr t k).Cells.l.length - 1]? = some q) (hr : Gre q (l.eraseIdx a) r) : Gre p l (vr t k :: r)
theorem Jng {α : Type} (l : List α) (a : Nat) : l.eraseIdx a = l.take a ++ l.drop (a + 1) := by
 rw [List.eraseIdx_eq_take_drop_succ]
theorem Js3 {p : Ja} (hp : InR p) (x : FS Jd) (hv : ∀ t ∈ x.l, VT t) (hL : x.l.length ≤ 1000000) : ∃ out, Ky Jac bigN (p, x, FS.nil) = some out ∧ Gre p x.l out.l := by
 refine Xd (body := Jac) (fun s => InR s.1 ∧ (∀ t ∈ s.2.1.l, VT t) ∧ s.2.2.l.length + s.2.1.l.length ≤ 1000000 ∧ ∀ r, Gre s.1 s.2.1.l r → Gre p x.l (s.2.2.l ++ r)) (fun s => s.2.1.l.length) (fun out => Gre p x.l out.l) ?_ bigN (p, x, FS.nil) ⟨hp, hv, by simp [FS.l]; exact hL, fun r hr => hr⟩ (Xn (by simp only; omega))
 rintro ⟨q, y, out⟩ ⟨h1, h2, h3, h4⟩
 simp only at h1 h2 h3 h4 ⊢
 by_cases h0 : 0 < y.l.length
 ·left
  have c : igt (flen y) 0 = true := Jea (by rw [Js]; omega)
  obtain ⟨a, k, d, el, hpk⟩ := J1y h1 y out h2 (by omega) h0
  obtain ⟨t, ht, hb, hk⟩ := hpk.here
  have ha : a < y.l.length := hpk.lt
  have hvt : VT t := h2 t (List.mem_of_getElem? ht)
  have g := Qb ha
  have hte : y.l[a] = t := by rw [List.getElem?_eq_getElem ha] at ht; exact Option.some.inj ht
  obtain ⟨vt, -, -, -⟩ := vr_ok hvt hk
  obtain ⟨e0, e1, ee, -, hq, -, hqr⟩ := Jsm vt
  obtain ⟨l, rfl⟩ : ∃ l, y = .lst l := ⟨_, Jl0 h0⟩
  have ha2 : a < l.length := ha
  simp only [Jb, FS.l_lst] at *
  have s1 : fsl (.lst l) 0 (a : Int) = some (.lst (l.take a)) := by
   show fsl (.lst l) ((0 : Nat) : Int) (a : Int) = _
   rw [Jla (by omega) (by omega)]; rfl
  have s2 : fsl (.lst l) (iadd .i64 (a : Int) 1) (flen (.lst l)) = some (.lst (l.drop (a + 1))) := by
   rw [zf (i := a) (by omega)]
   show fsl (.lst l) ((a + 1 : Nat) : Int) ((l.length : Nat) : Int) = _
   rw [Jla (by omega) (Nat.le_refl _), List.take_of_length_le (by rw [List.length_drop]; omega)]
  have l1 : (l.take a).length = a := by rw [List.length_take]; omega
  have l2 : (l.drop (a + 1)).length = l.length - (a + 1) := by rw [List.length_drop]
  have f1 : fits 40 (flen (FS.lst (l.take a)) + flen (FS.lst (l.drop (a + 1)))) = true := Xx (by simp only [Jb, Js, FS.l_lst]; omega) (by simp only [Jb, Js, FS.l_lst]; omega) (by omega)
  have f2 : fits 40 (flen out + 1) = true := Xx (by rw [Js]; omega) (by rw [Js]; omega) (by omega)
  refine ⟨(e1, fapp (.lst (l.take a)) (.lst (l.drop (a + 1))), Y0 out (vr t k)), ?_, ⟨hqr, fun u hu => ?_, ?_, fun r hr => ?_⟩, ?_⟩
  ·simp only [Jb, Jac, c, if_true, el, g, hte, Jws hvt hk, s1, s2, f1, f2, ee]
  ·simp only [Jb, Jf5, FS.l_lst, List.mem_append] at hu
   rcases hu with hu | hu
   ·exact h2 u (List.mem_of_mem_take hu)
   ·exact h2 u (List.mem_of_mem_drop hu)
  ·simp only [Jb, Jf5, Jap, FS.l_lst, List.length_append, List.length_cons, List.length_nil]; omega
  ·simp only [Jb, Jf5, Jap, FS.l_lst] at hr ⊢
   rw [List.append_assoc]
   refine h4 _ (.cons q e1 l r a k d t hpk ht hq ?_)
   rw [Jng]; exact hr
  ·simp only [Jb, Jf5, FS.l_lst, List.length_append]; omega
 ·right
  have c : igt (flen y) 0 = false := Jgc (by rw [Js]; omega)
  have hy : y.l = [] := List.length_eq_zero_iff.1 (by omega)
  refine ⟨out, by simp only [Jb, Jac, c, if_false, Bool.false_eq_true], ?_⟩
  have := h4 [] (by rw [hy]; exact .nil _)
  rwa [List.append_nil] at this
theorem Jq2 (c : Ja) : Qz c = true ↔ InR c := by
 unfold InR; simp only [Jb, Qz, Jbl, Jbc, jv]; exact ⟨fun h => ⟨h.1.1.1, h.1.1.2, h.1.2, h.2⟩, fun h => ⟨⟨⟨h.1, h.2.1⟩, h.2.2.1⟩, h.2.2.2⟩⟩
theorem J3j {p : Ja} (hp : InR p) (x : FS Jd) (hv : ∀ t ∈ x.l, VT t) (hL : x.l.length ≤ 1000000) : ∃ out, Jdg p x = some out ∧ Gre p x.l out.l := by
 obtain ⟨y, ey, hy⟩ := Jur x hv hL
 obtain ⟨out, eo, ho⟩ := Js3 hp y (by rw [hy]; exact hv) (by rw [hy]; exact hL)
 refine ⟨out, ?_, by rw [hy] at ho; exact ho⟩
 unfold Jdg
 rw [if_neg (by rw [Jce, Jq2]; exact fun h => h hp), ey]; try simp only [Jb]
 simp only [Jb, eo]
theorem Gre.len {p : Ja} {l r : List Jd} (h : Gre p l r) : r.length = l.length := by
 induction h with
 | nil => rfl
 | cons p q l r a k d t hp ht hq hr ih =>
  have := (List.getElem?_eq_some_iff.1 ht).1
  rw [List.length_cons, ih, List.length_eraseIdx]; split <;> omega
theorem Gre.valid {p : Ja} {l r : List Jd} (h : Gre p l r) : (∀ t ∈ l, VT t) → ∀ t ∈ r, VT t := by
 induction h with
 | nil => exact fun _ t ht => by cases ht
 | cons p q l r a k d t hp ht hq hr ih =>
  intro hv u hu
  obtain ⟨t', ht', hb, hk⟩ := hp.here
  rw [ht] at ht'
  cases ht'
  rcases List.mem_cons.1 hu with rfl | hu
  ·exact (vr_ok (hv t (List.mem_of_getElem? ht)) hk).1
  ·exact ih (fun v hv' => hv v (List.mem_of_mem_eraseIdx hv')) u hu
def Ja4 (l : List Jd) : List Ja := l.flatMap fun t => t.Cells.l
theorem Jri {l : List Jd} {a : Nat} {t : Jd} (ht : l[a]? = some t) : (Ja4 l).Perm (t.Cells.l ++ Ja4 (l.eraseIdx a)) := by
 have ha := (List.getElem?_eq_some_iff.1 ht).1
 have h1 : l = l.take a ++ t :: l.drop (a + 1) := by
  have : l[a] = t := (List.getElem?_eq_some_iff.1 ht).2
  rw [← this, ← List.drop_eq_getElem_cons ha, List.take_append_drop]
 rw [Jng]; try rw [Jb]
 conv => lhs; rw [h1]
 simp only [Jb, Ja4, List.flatMap_append, List.flatMap_cons]
 rw [← List.append_assoc, ← List.append_assoc]
 exact (List.perm_append_comm).append_right _
theorem Gre.cells {p : Ja} {l r : List Jd} (h : Gre p l r) : (∀ t ∈ l, VT t) → (Ja4 r).Perm (Ja4 l) := by
 induction h with
 | nil => exact fun _ => .refl _
 | cons p q l r a k d t hp ht hq hr ih =>
  intro hv
  obtain ⟨t', ht', hb, hk⟩ := hp.here
  rw [ht] at ht'
  cases ht'
  have h1 := (vr_ok (hv t (List.mem_of_getElem? ht)) hk).2.2.2
  have h2 := ih fun v hv' => hv v (List.mem_of_mem_eraseIdx hv')
  refine List.Perm.trans ?_ (Jri ht).symm
  exact h1.append h2
end Go.Proofs.Ytemehoioeoohmaa
namespace Go.Proofs.Ytemehoioeoohmaa
open Go Go.Vv Go.Proofs
set_option linter.unusedSimpArgs false
set_option linter.unusedVariables false
set_option linter.unusedSectionVars false
def c00 : Ja := ⟨0, 0⟩
def fstC (t : Jd) : Ja := (t.Cells.l[0]?).getD c00
def lstC (t : Jd) : Ja := (t.Cells.l[t.Cells.l.length - 1]?).getD c00
def fstB (t : Jd) : Ja := if t.Closed = true then fstC t else lstC t
def lstB (t : Jd) : Ja := if t.Closed = true then lstC t else fstC t
theorem Jbz {t : Jd} (h : VT t) : Jbk t = some ⟨fstC t, lstC t⟩ ∧ InR (fstC t) ∧ InR (lstC t) := by
 obtain ⟨a, b, e, ha, hb, ia, ib⟩ := Jsm h
 have h1 : fstC t = a := by unfold fstC; rw [ha]; rfl
 have h2 : lstC t = b := by unfold lstC; rw [hb]; rfl
 rw [h1, h2]; exact ⟨e, ia, ib⟩
theorem Jfj {t : Jd} (h : VT t) : Jbm t = some ⟨fstB t, lstB t⟩ ∧ InR (fstB t) ∧ InR (lstB t) := by
 obtain ⟨e, ia, ib⟩ := Jbz h
 unfold Jbm fstB lstB
 rw [e]; try rw [Jb]; try simp only [Jb]
 by_cases hc : t.Closed = true
 ·simp only [Jb, hc, Y4, if_true, if_false, Bool.false_eq_true]; exact ⟨trivial, ia, ib⟩
 ·have hf : t.Closed = false := by simpa using hc
  simp only [Jb, hf, Zn, if_true, if_false, Bool.false_eq_true]; exact ⟨trivial, ib, ia⟩
def t00 : Jd := ⟨0, false, .nil⟩
def at_ (l : List Jd) (m : Nat) : Jd := (l[m]?).getD t00
theorem Jpy {l : List Jd} {m : Nat} (h : m < l.length) : at_ l m = l[m] := by unfold at_; rw [List.getElem?_eq_getElem h]; rfl
def sumA (l : List Jd) : Nat → Nat
 | 0 => 0
 | i + 1 => sumA l i + dist (lstC (at_ l i)) (fstC (at_ l (i + 1)))
def sumB (l : List Jd) : Nat → Nat
 | 0 => 0
 | i + 1 => sumB l i + dist (lstB (at_ l (i + 1))) (fstB (at_ l i))
theorem Jpz {l : List Jd} (hv : ∀ t ∈ l, VT t) : ∀ i, i < l.length → sumA l i ≤ i * 16384
 | 0, _ => by simp [sumA]
 | i + 1, h => by
  have h1 := Jpz hv i (by omega)
  have a1 := (Jbz (hv _ (List.getElem_mem (by omega : i < l.length)))).2.2
  have a2 := (Jbz (hv _ (List.getElem_mem h))).2.1
  rw [← Jpy] at a1 a2
  have := Jec a1 a2
  simp only [Jb, sumA]; omega
theorem Jpu {l : List Jd} (hv : ∀ t ∈ l, VT t) : ∀ i, i < l.length → sumB l i ≤ i * 16384
 | 0, _ => by simp [sumB]
 | i + 1, h => by
  have h1 := Jpu hv i (by omega)
  have a1 := (Jfj (hv _ (List.getElem_mem (by omega : i < l.length)))).2.1
  have a2 := (Jfj (hv _ (List.getElem_mem h))).2.2
  rw [← Jpy] at a1 a2
  have := Jec a2 a1
  simp only [Jb, sumB]; omega
def mkF {α : Type} : List α → FS α
 | [] => .nil
 | a :: l => .lst (a :: l)
theorem Jk8 {α : Type} (l : List α) : (mkF l).l = l := by cases l <;> rfl
theorem mkF_snoc {α : Type} (l : List α) (a : α) : Y0 (mkF l) a = mkF (l ++ [a]) := by cases l <;> rfl
theorem fnl_mkF {α : Type} (l : List α) : fnl (mkF l) = decide (l.length = 0) := by cases l <;> simp [mkF, fnl]
def eA (t : Jd) : A2 Ja := ⟨fstC t, lstC t⟩
def eB (t : Jd) : A2 Ja := ⟨fstB t, lstB t⟩
def z4 (p : Ja) (l : List Jd) (n : Nat) : Xb :=
 ⟨p, mkF ((l.take n).map eA), mkF ((l.take n).map eB), mkF ((List.range n).map fun i => ((sumA l i : Nat) : Int)), mkF ((List.range n).map fun i => ((sumB l i : Nat) : Int))⟩
theorem Jp0 {α β : Type} (f : α → β) {l : List α} {n : Nat} (h : n < l.length) : (l.take (n + 1)).map f = (l.take n).map f ++ [f l[n]] := by
 rw [List.take_succ_eq_append_getElem h, List.map_append]; rfl
theorem Jof {β : Type} (f : Nat → β) (n : Nat) : (List.range (n + 1)).map f = (List.range n).map f ++ [f n] := by
 rw [List.range_succ, List.map_append]; rfl
theorem Jxg {p : Ja} {l : List Jd} {n : Nat} (h : n < l.length) : z4 p l (n + 1) = ⟨p, Y0 (z4 p l n).a (eA l[n]), Y0 (z4 p l n).b (eB l[n]), Y0 (z4 p l n).ahead (sumA l n : Nat), Y0 (z4 p l n).aback (sumB l n : Nat)⟩ := by
 simp only [Jb, z4, mkF_snoc, Jp0 _ h, Jof]
theorem Juh (p : Ja) (l : List Jd) (n : Nat) (hn : n ≤ l.length) : band (beqB (fnl (z4 p l n).a) (fnl (z4 p l n).b)) (band (beqB (fnl (z4 p l n).a) (fnl (z4 p l n).ahead)) (beqB (fnl (z4 p l n).a) (fnl (z4 p l n).aback))) = true := by
 simp only [Jb, Jbl, Jt9, z4, fnl_mkF, List.length_map, List.length_take, List.length_range, Nat.min_eq_left hn, and_self]
theorem Juw {α : Type} {x : FS α} {a : α} {n : Nat} (hn : n = x.l.length) : fget (Y0 x a) (n : Int) = some a := Jam (by rw [Jap, List.getElem?_append_right (by omega)]; simp [hn])
theorem Jm9 {α : Type} {x : FS α} {a b : α} {n : Nat} (h : x.l[n]? = some b) : fget (Y0 x a) (n : Int) = some b := Jam (by rw [Jap, List.getElem?_append_left (List.getElem?_eq_some_iff.1 h).1]; exact h)
theorem Jkt {α : Type} {bytes : Nat} {x : FS α} (h : x.l.length ≤ 1000000) (hb : bytes ≤ 64) : fits bytes (flen x + 1) = true := Xx (by rw [Js]; omega) (by rw [Js]; omega) (by omega)
theorem Jw3 (p : Ja) (x : FS Jd) (hv : ∀ t ∈ x.l, VT t) (hL : x.l.length ≤ 100000) : Ja7 p x = some (z4 p x.l x.l.length, x) := by
 obtain ⟨r, e, rfl⟩ := Xd (body := zq x ⟨⟨0, 0⟩, .nil, .nil, .nil, .nil⟩ (flen x)) (fun s => ∃ n : Nat, s.2 = n ∧ n ≤ x.l.length ∧ s.1 = z4 p x.l n) (fun s => (x.l.length - s.2).toNat) (fun r => r = z4 p x.l x.l.length)
  (by
   rintro ⟨v, i⟩ ⟨n, h1, h2, h3⟩
   simp only at h1 h2 h3 ⊢
   subst h1 h3
   have ag := Juh p x.l n h2
   by_cases hn : n < x.l.length
   ·left
    have c : ilt (n : Int) (flen x) = true := Ye (by rw [Js]; omega)
    have g := Qb hn
    have hvt := hv _ (List.getElem_mem hn)
    have e1 := (Jbz hvt).1
    have e2 := (Jfj hvt).1
    have l1 : (z4 p x.l n).a.l.length = n := by simp only [Jb, z4, Jk8, List.length_map, List.length_take]; omega
    have l2 : (z4 p x.l n).b.l.length = n := by simp only [Jb, z4, Jk8, List.length_map, List.length_take]; omega
    have l3 : (z4 p x.l n).ahead.l.length = n := by simp only [Jb, z4, Jk8, List.length_map, List.length_range]
    have l4 : (z4 p x.l n).aback.l.length = n := by simp only [Jb, z4, Jk8, List.length_map, List.length_range]
    have f1 : fits 32 (flen (z4 p x.l n).a + 1) = true := Jkt (by omega) (by omega)
    have f2 : fits 32 (flen (z4 p x.l n).b + 1) = true := Jkt (by omega) (by omega)
    have f3 : fits 8 (flen (z4 p x.l n).ahead + 1) = true := Jkt (by omega) (by omega)
    have f4 : fits 8 (flen (z4 p x.l n).aback + 1) = true := Jkt (by omega) (by omega)
    refine ⟨(z4 p x.l (n + 1), ((n + 1 : Nat) : Int)), ?_, ⟨n + 1, rfl, hn, rfl⟩, by simp only; omega⟩
    rw [Jxg hn]
    cases n with
    | zero =>
     have c0 : igt ((0 : Nat) : Int) 0 = false := rfl
     have s0 : iadd .i64 ((0 : Nat) : Int) 1 = ((0 + 1 : Nat) : Int) := rfl
     simp only [Jb, zq, ag, if_true, c, g, e1, f1, e2, f2, c0, if_false, Bool.false_eq_true, f3, f4, s0]
     rfl
    | succ m =>
     have c0 : igt ((m + 1 : Nat) : Int) 0 = true := Jea (by omega)
     have sm : isub .i64 ((m + 1 : Nat) : Int) 1 = ((m : Nat) : Int) := by rw [Zj (by omega) (by omega)]; omega
     have hm : m < x.l.length := by omega
     have hvm := hv _ (List.getElem_mem hm)
     have a1 : fget (z4 p x.l (m + 1)).ahead ((m : Nat) : Int) = some ((sumA x.l m : Nat) : Int) := Jam (by simp only [Jb, z4, Jk8]; simp)
     have a2 : fget (z4 p x.l (m + 1)).aback ((m : Nat) : Int) = some ((sumB x.l m : Nat) : Int) := Jam (by simp only [Jb, z4, Jk8]; simp)
     have b1 : fget (Y0 (z4 p x.l (m + 1)).a ⟨fstC x.l[m + 1], lstC x.l[m + 1]⟩) ((m : Nat) : Int) = some (eA x.l[m]) := Jm9 (by simp only [Jb, z4, Jk8]; simp [List.getElem?_take, hm])
     have b2 : fget (Y0 (z4 p x.l (m + 1)).a ⟨fstC x.l[m + 1], lstC x.l[m + 1]⟩) ((m + 1 : Nat) : Int) = some ⟨fstC x.l[m + 1], lstC x.l[m + 1]⟩ := Juw l1.symm
     have b3 : fget (Y0 (z4 p x.l (m + 1)).b ⟨fstB x.l[m + 1], lstB x.l[m + 1]⟩) ((m : Nat) : Int) = some (eB x.l[m]) := Jm9 (by simp only [Jb, z4, Jk8]; simp [List.getElem?_take, hm])
     have b4 : fget (Y0 (z4 p x.l (m + 1)).b ⟨fstB x.l[m + 1], lstB x.l[m + 1]⟩) ((m + 1 : Nat) : Int) = some ⟨fstB x.l[m + 1], lstB x.l[m + 1]⟩ := Juw l2.symm
     have r1 := (Jbz hvm).2
     have r2 := (Jbz hvt).2
     have r3 := (Jfj hvm).2
     have r4 := (Jfj hvt).2
     have d1 := Jk3 r1.2 r2.1
     have d2 := Jk3 r4.2 r3.1
     have q1 := Jpz hv m hm
     have q2 := Jpu hv m hm
     have q3 := Jec r1.2 r2.1
     have q4 := Jec r4.2 r3.1
     have u1 : iadd .i64 ((sumA x.l m : Nat) : Int) (Km (lstC x.l[m]) (fstC x.l[m + 1])) = ((sumA x.l (m + 1) : Nat) : Int) := by
      rw [d1, Jbb (by omega) (by omega)]
      simp only [Jb, sumA, Jpy hm, Jpy hn]; omega
     have u2 : iadd .i64 ((sumB x.l m : Nat) : Int) (Km (lstB x.l[m + 1]) (fstB x.l[m])) = ((sumB x.l (m + 1) : Nat) : Int) := by
      rw [d2, Jbb (by omega) (by omega)]
      simp only [Jb, sumB, Jpy hm, Jpy hn]; omega
     simp only [Jb, zq, ag, if_true, c, g, e1, f1, e2, f2, c0, sm, a1, a2, b1, b2, b3, b4, f3, f4, eA, eB, u1, u2, zf (i := m + 1) (by omega)]
     rfl
   ·right
    have hn' : n = x.l.length := by omega
    subst hn'
    have c : ilt ((x.l.length : Nat) : Int) (flen x) = false := Yf (by rw [Js]; omega)
    exact ⟨z4 p x.l x.l.length, by simp only [Jb, zq, ag, if_true, c, if_false, Bool.false_eq_true], rfl⟩)
  bigN (⟨p, .nil, .nil, .nil, .nil⟩, 0) ⟨0, rfl, by omega, rfl⟩ (Xn (by simp only; omega))
 unfold Ja7
 rw [e]; try rw [Jb]; try simp only [Jb]
 simp only [Jb, Juh p x.l x.l.length (Nat.le_refl _), if_true]
end Go.Proofs.Ytemehoioeoohmaa
namespace Go.Proofs.Ytemehoioeoohmaa
open Go Go.Vv Go.Proofs
set_option linter.unusedSimpArgs false
set_option linter.unusedVariables false
set_option linter.unusedSectionVars false
section
variable {p : Ja} {l : List Jd} {m : Nat}
theorem getA (h : m < l.length) : fget (z4 p l l.length).a (m : Int) = some (eA (at_ l m)) := Jam (by simp only [Jb, z4, Jk8, Jpy h]; simp [h])
theorem getB (h : m < l.length) : fget (z4 p l l.length).b (m : Int) = some (eB (at_ l m)) := Jam (by simp only [Jb, z4, Jk8, Jpy h]; simp [h])
theorem getAh (h : m < l.length) : fget (z4 p l l.length).ahead (m : Int) = some ((sumA l m : Nat) : Int) := Jam (by simp only [Jb, z4, Jk8]; simp [h])
theorem getAb (h : m < l.length) : fget (z4 p l l.length).aback (m : Int) = some ((sumB l m : Nat) : Int) := Jam (by simp only [Jb, z4, Jk8]; simp [h])
theorem Jhb : flen (z4 p l l.length).a = (l.length : Int) := by simp only [Jb, Js, z4, Jk8]; simp
end
def Jma (p : Ja) (l : List Jd) (i : Nat) : Ja := if 0 < i then lstC (at_ l (i - 1)) else p
def Jiw (p : Ja) (l : List Jd) (i j : Nat) : Int :=
 (dist (Jma p l i) (fstC (at_ l i)) : Int) + sumA l j - sumA l i + (if j + 1 < l.length then (dist (lstC (at_ l j)) (fstC (at_ l (j + 1))) : Int) else 0)
def Jl3 (p : Ja) (l : List Jd) (i j : Nat) : Int :=
 (dist (Jma p l i) (fstB (at_ l j)) : Int) + sumB l j - sumB l i + (if j + 1 < l.length then (dist (lstB (at_ l i)) (fstC (at_ l (j + 1))) : Int) else 0)
theorem gains_ok {p : Ja} (hp : InR p) {l : List Jd} (hv : ∀ t ∈ l, VT t) (hL : l.length ≤ 100000) {i j : Nat} (hij : i ≤ j) (hj : j < l.length) :
  Jbn (z4 p l l.length) i j = some (ilt (Jl3 p l i j) (Jiw p l i j)) := by
 have hi : i < l.length := by omega
 have vt : ∀ k, k < l.length → VT (at_ l k) := fun k hk => by rw [Jpy hk]; exact hv _ (List.getElem_mem hk)
 have ia := (Jbz (vt i hi)).2
 have ja := (Jbz (vt j hj)).2
 have ib := (Jfj (vt i hi)).2
 have jb := (Jfj (vt j hj)).2
 have pr : InR (Jma p l i) := by
  unfold Jma; split
  ·exact (Jbz (vt (i - 1) (by omega))).2.2
  ·exact hp
 have q1 := Jpz hv i hi
 have q2 := Jpz hv j hj
 have q3 := Jpu hv i hi
 have q4 := Jpu hv j hj
 have d1 := Jec pr ia.1
 have d2 := Jec pr jb.1
 have f1 := Jk3 pr ia.1
 have f2 := Jk3 pr jb.1
 have s1 : isub .i64 (iadd .i64 (Km (Jma p l i) (fstC (at_ l i))) ((sumA l j : Nat) : Int)) ((sumA l i : Nat) : Int) = (dist (Jma p l i) (fstC (at_ l i)) : Int) + sumA l j - sumA l i := by
  rw [f1, Jbb (by omega) (by omega), Zj (by omega) (by omega)]
 have s2 : isub .i64 (iadd .i64 (Km (Jma p l i) (fstB (at_ l j))) ((sumB l j : Nat) : Int)) ((sumB l i : Nat) : Int) = (dist (Jma p l i) (fstB (at_ l j)) : Int) + sumB l j - sumB l i := by
  rw [f2, Jbb (by omega) (by omega), Zj (by omega) (by omega)]
 have nx : iadd .i64 (j : Int) 1 = ((j + 1 : Nat) : Int) := zf (by omega)
 unfold Jbn
 by_cases h0 : 0 < i
 ·have c0 : igt (i : Int) 0 = true := Jea (by omega)
  have sm : isub .i64 (i : Int) 1 = ((i - 1 : Nat) : Int) := by rw [Zj (by omega) (by omega)]; omega
  have hpv : lstC (at_ l (i - 1)) = Jma p l i := by unfold Jma; rw [if_pos h0]
  simp only [Jb, c0, if_true, sm, getA (by omega : i - 1 < l.length), getA hi, getA hj, getAh hj, getAh hi, getB hj, getB hi, getAb hj, getAb hi, nx, Jhb]
  by_cases hn : j + 1 < l.length
  ·have c1 : ilt ((j + 1 : Nat) : Int) (l.length : Int) = true := Ye (by omega)
   have na := (Jbz (vt (j + 1) hn)).2
   have d3 := Jec ja.2 na.1
   have d4 := Jec ib.2 na.1
   have f3 := Jk3 ja.2 na.1
   have f4 := Jk3 ib.2 na.1
   simp only [Jb, c1, if_true, getA hn, hpv, eA, eB]
   rw [s1, s2, f3, f4, Jbb (by omega) (by omega), Jbb (by omega) (by omega)]
   unfold Jiw Jl3
   rw [if_pos hn, if_pos hn]
  ·have c1 : ilt ((j + 1 : Nat) : Int) (l.length : Int) = false := Yf (by omega)
   simp only [Jb, c1, if_false, Bool.false_eq_true, hpv, eA, eB]
   rw [s1, s2]
   unfold Jiw Jl3
   rw [if_neg hn, if_neg hn, Int.add_zero, Int.add_zero]
 ·have c0 : igt (i : Int) 0 = false := Jgc (by omega)
  have hpv : (z4 p l l.length).from_ = Jma p l i := by unfold Jma; rw [if_neg h0]; rfl
  simp only [Jb, c0, if_false, Bool.false_eq_true, getA hi, getA hj, getAh hj, getAh hi, getB hj, getB hi, getAb hj, getAb hi, nx, Jhb]
  by_cases hn : j + 1 < l.length
  ·have c1 : ilt ((j + 1 : Nat) : Int) (l.length : Int) = true := Ye (by omega)
   have na := (Jbz (vt (j + 1) hn)).2
   have d3 := Jec ja.2 na.1
   have d4 := Jec ib.2 na.1
   have f3 := Jk3 ja.2 na.1
   have f4 := Jk3 ib.2 na.1
   simp only [Jb, c1, if_true, getA hn, hpv, eA, eB]
   rw [s1, s2, f3, f4, Jbb (by omega) (by omega), Jbb (by omega) (by omega)]
   unfold Jiw Jl3
   rw [if_pos hn, if_pos hn]
  ·have c1 : ilt ((j + 1 : Nat) : Int) (l.length : Int) = false := Yf (by omega)
   simp only [Jb, c1, if_false, Bool.false_eq_true, hpv, eA, eB]
   rw [s1, s2]
   unfold Jiw Jl3
   rw [if_neg hn, if_neg hn, Int.add_zero, Int.add_zero]
def Low (p : Ja) (l : List Jd) (i j : Nat) : Prop := Jl3 p l i j < Jiw p l i j
theorem step0_ok {p : Ja} (hp : InR p) {l : List Jd} (hv : ∀ t ∈ l, VT t) (hL : l.length ≤ 100000) {i : Nat} (hi : i < l.length) (k2 k3 : Int) :
  ∃ r, Ky (Zg (z4 p l l.length) (i : Int) k2 k3) bigN (i : Int) = some r ∧ ((∃ j : Nat, r = .inl ((i : Int), (j : Int), true) ∧ i ≤ j ∧ j < l.length ∧ Low p l i j ∧ ∀ j', i ≤ j' → j' < j → ¬ Low p l i j') ∨ (r = .inr () ∧ ∀ j', i ≤ j' → j' < l.length → ¬ Low p l i j')) := by
 refine Xd (body := Zg (z4 p l l.length) (i : Int) k2 k3) (fun s => ∃ j : Nat, s = j ∧ i ≤ j ∧ j ≤ l.length ∧ ∀ j', i ≤ j' → j' < j → ¬ Low p l i j') (fun s => (l.length - s).toNat) _ ?_ bigN (i : Int) ⟨i, rfl, by omega, by omega, fun j' h1 h2 => by omega⟩ (Xn (by omega))
 rintro s ⟨j, rfl, h1, h2, h3⟩
 by_cases hj : j < l.length
 ·have c : ilt (j : Int) (l.length : Int) = true := Ye (by omega)
  have g := gains_ok hp hv hL h1 hj
  by_cases hlow : Low p l i j
  ·right
   have c2 : ilt (Jl3 p l i j) (Jiw p l i j) = true := Ye hlow
   exact ⟨_, by simp only [Jb, Zg, Jhb, c, if_true, g, c2], .inl ⟨j, rfl, h1, hj, hlow, h3⟩⟩
  ·left
   have c2 : ilt (Jl3 p l i j) (Jiw p l i j) = false := Yf hlow
   refine ⟨((j + 1 : Nat) : Int), by simp only [Jb, Zg, Jhb, c, if_true, g, c2, if_false, Bool.false_eq_true, zf (i := j) (by omega)], ⟨j + 1, rfl, by omega, hj, fun j' h4 h5 => ?_⟩, by omega⟩
   by_cases hjj : j' = j
   ·rw [hjj]; exact hlow
   ·exact h3 j' h4 (by omega)
 ·right
  have c : ilt (j : Int) (l.length : Int) = false := Yf (by omega)
  exact ⟨_, by simp only [Jb, Zg, Jhb, c, if_false, Bool.false_eq_true], .inr ⟨rfl, fun j' h4 h5 => h3 j' h4 (by omega)⟩⟩
structure Jpt (p : Ja) (l : List Jd) (i j : Nat) : Prop where
 le : i ≤ j
 lt : j < l.length
 low : Low p l i j
 row : ∀ j', i ≤ j' → j' < j → ¬ Low p l i j'
 pre : ∀ i' j', i' < i → i' ≤ j' → j' < l.length → ¬ Low p l i' j'
def NoLow (p : Ja) (l : List Jd) : Prop := ∀ i' j', i' ≤ j' → j' < l.length → ¬ Low p l i' j'
theorem step_ok {p : Ja} (hp : InR p) {l : List Jd} (hv : ∀ t ∈ l, VT t) (hL : l.length ≤ 100000) :
  (∃ i j : Nat, Ja6 (z4 p l l.length) = some ((i : Int), (j : Int), true) ∧ Jpt p l i j) ∨ (Ja6 (z4 p l l.length) = some (0, 0, false) ∧ NoLow p l) := by
 obtain ⟨r, e, hr⟩ := Xd (body := jo (z4 p l l.length) (l.length : Int)) (fun s => ∃ i : Nat, s = i ∧ i ≤ l.length ∧ ∀ i' j', i' < i → i' ≤ j' → j' < l.length → ¬ Low p l i' j') (fun s => (l.length - s).toNat)
  (fun r => (∃ i j : Nat, r = .inl ((i : Int), (j : Int), true) ∧ Jpt p l i j) ∨ (r = .inr () ∧ NoLow p l))
  (by
   rintro s ⟨i, rfl, h2, h3⟩
   by_cases hi : i < l.length
   ·have c : ilt (i : Int) (l.length : Int) = true := Ye (by omega)
    obtain ⟨x, ex, hx⟩ := step0_ok hp hv hL hi (l.length : Int) (i : Int)
    rcases hx with ⟨j, rfl, h4, h5, h6, h7⟩ | ⟨rfl, h4⟩
    ·right
     exact ⟨_, by simp only [Jb, jo, c, if_true, ex], .inl ⟨i, j, rfl, h4, h5, h6, h7, h3⟩⟩
    ·left
     refine ⟨((i + 1 : Nat) : Int), by simp only [Jb, jo, c, if_true, ex, zf (i := i) (by omega)], ⟨i + 1, rfl, hi, fun i' j' h5 h6 h7 => ?_⟩, by omega⟩
     by_cases hii : i' = i
     ·rw [hii] at h6 ⊢; exact h4 j' h6 h7
     ·exact h3 i' j' (by omega) h6 h7
   ·right
    have c : ilt (i : Int) (l.length : Int) = false := Yf (by omega)
    exact ⟨_, by simp only [Jb, jo, c, if_false, Bool.false_eq_true], .inr ⟨rfl, fun i' j' h4 h5 => h3 i' j' (by omega) h4 h5⟩⟩)
  bigN 0 ⟨0, rfl, by omega, fun i' j' h => by omega⟩ (Xn (by omega))
 unfold Ja6
 rw [Jhb, e]; try simp only [Jb]
 rcases hr with ⟨i, j, rfl, h⟩ | ⟨rfl, h⟩
 ·exact .inl ⟨i, j, rfl, h⟩
 ·exact .inr ⟨rfl, h⟩
def tr (t : Jd) : Jd := if t.Closed = true then t else ⟨t.Role, t.Closed, .lst t.Cells.l.reverse⟩
theorem tr_ok {t : Jd} (h : VT t) : VT (tr t) ∧ (tr t).Cells.l.Perm t.Cells.l := by
 unfold tr; split
 ·exact ⟨h, .refl _⟩
 ·exact ⟨h.rev rfl, List.reverse_perm _⟩
theorem swap_ok {x : FS Jd} (hL : x.l.length ≤ 100000) {i j : Nat} (hij : i ≤ j) (hj : j < x.l.length) (k0 : Ja) (k1 k2 k3 : Int) :
  ∃ y, Ky (zt k0 k1 k2 k3) bigN (x, (i : Int), (j : Int)) = some y ∧ y.l.length = x.l.length ∧ ∀ q : Nat, y.l[q]? = if i ≤ q ∧ q ≤ j then x.l[i + j - q]? else x.l[q]? := by
 refine Xd (body := zt k0 k1 k2 k3) (fun s => ∃ m : Nat, s.2.1 = ((i + m : Nat) : Int) ∧ s.2.2 = (j : Int) - m ∧ 2 * m ≤ j - i + 1 ∧ s.1.l.length = x.l.length ∧ ∀ q : Nat, s.1.l[q]? = if (i ≤ q ∧ q < i + m) ∨ (j < q + m ∧ q ≤ j) then x.l[i + j - q]? else x.l[q]?)
  (fun s => (s.2.2 - s.2.1 + 1).toNat) _ ?_ bigN (x, (i : Int), (j : Int)) ⟨0, rfl, by simp, by omega, rfl, fun q => by rw [if_neg (by omega)]⟩ (Xn (by simp only; omega))
 rintro ⟨y, a, b⟩ ⟨m, h1, h2, h3, h4, h5⟩
 simp only at h1 h2 h4 h5 ⊢
 subst h1 h2
 by_cases hlt : i + m < j - m
 ·left
  have hb : (j : Int) - m = ((j - m : Nat) : Int) := by omega
  rw [hb]; try rw [Jb]
  have c : ilt ((i + m : Nat) : Int) ((j - m : Nat) : Int) = true := Ye (by omega)
  have la : i + m < y.l.length := by omega
  have lb : j - m < y.l.length := by omega
  have ga := Qb la
  have gb := Qb lb
  have gc : fget (fset y ((i + m : Nat) : Int) y.l[j - m]) ((j - m : Nat) : Int) = some y.l[j - m] := Jam (by rw [Jic, List.getElem?_set_ne (by simp only [Jb, Int.toNat_natCast]; omega)]; exact List.getElem?_eq_getElem lb)
  refine ⟨(fset (fset y ((i + m : Nat) : Int) y.l[j - m]) ((j - m : Nat) : Int) y.l[i + m], ((i + m + 1 : Nat) : Int), (j : Int) - (m + 1 : Nat)), ?_, ⟨m + 1, by simp only; omega, rfl, by omega, ?_, fun q => ?_⟩, by simp only; omega⟩
  ·simp only [Jb, zt, c, if_true, ga, gb, gc, zf (i := i + m) (by omega)]
   rw [Zj (by omega) (by omega), show ((j - m : Nat) : Int) - 1 = (j : Int) - ((m + 1 : Nat) : Int) by omega]
  ·simp only [Jb, Jic, List.length_set]; exact h4
  ·simp only [Jb, Jic, Int.toNat_natCast]
   have va : y.l[i + m]? = x.l[i + m]? := by rw [h5]; rw [if_neg (by omega)]
   have vb : y.l[j - m]? = x.l[j - m]? := by rw [h5]; rw [if_neg (by omega)]
   rw [List.getElem?_eq_getElem la] at va
   rw [List.getElem?_eq_getElem lb] at vb
   rw [List.getElem?_set]
   by_cases hq1 : j - m = q
   ·subst hq1
    rw [if_pos rfl, if_pos (by rw [List.length_set]; omega), if_pos (by omega), show i + j - (j - m) = i + m by omega, ← va]
   ·rw [if_neg hq1, List.getElem?_set]
    by_cases hq2 : i + m = q
    ·subst hq2
     rw [if_pos rfl, if_pos la, if_pos (by omega), show i + j - (i + m) = j - m by omega, ← vb]
    ·rw [if_neg hq2, h5 q]
     by_cases hc : (i ≤ q ∧ q < i + m) ∨ (j < q + m ∧ q ≤ j)
     ·rw [if_pos hc, if_pos (by omega)]
     ·rw [if_neg hc, if_neg (by omega)]
 ·right
  have c : ilt ((i + m : Nat) : Int) ((j : Int) - m) = false := Yf (by omega)
  refine ⟨y, by simp only [Jb, zt, c, if_false, Bool.false_eq_true], h4, fun q => ?_⟩
  rw [h5 q]
  by_cases hc : (i ≤ q ∧ q < i + m) ∨ (j < q + m ∧ q ≤ j)
  ·rw [if_pos hc, if_pos (by omega)]
  ·rw [if_neg hc]
   by_cases hq : i ≤ q ∧ q ≤ j
   ·rw [if_pos hq, show i + j - q = q by omega]
   ·rw [if_neg hq]
theorem flip_ok {x : FS Jd} (hv : ∀ t ∈ x.l, VT t) (hL : x.l.length ≤ 100000) {i j : Nat} (hij : i ≤ j) (hj : j < x.l.length) (k0 : Ja) (k1 : Int) :
  ∃ y, Ky (jr k0 k1 (j : Int)) bigN (x, (i : Int)) = some y ∧ y.l.length = x.l.length ∧ ∀ q : Nat, y.l[q]? = if i ≤ q ∧ q ≤ j then (x.l[q]?).map tr else x.l[q]? := by
 refine Xd (body := jr k0 k1 (j : Int)) (fun s => ∃ m : Nat, s.2 = ((i + m : Nat) : Int) ∧ i + m ≤ j + 1 ∧ s.1.l.length = x.l.length ∧ ∀ q : Nat, s.1.l[q]? = if i ≤ q ∧ q < i + m then (x.l[q]?).map tr else x.l[q]?)
  (fun s => ((j : Int) + 1 - s.2).toNat) _ ?_ bigN (x, (i : Int)) ⟨0, rfl, by omega, rfl, fun q => by rw [if_neg (by omega)]⟩ (Xn (by simp only; omega))
 rintro ⟨y, a⟩ ⟨m, h1, h3, h4, h5⟩
 simp only at h1 h4 h5 ⊢
 subst h1
 by_cases hle : i + m ≤ j
 ·left
  have c : ile ((i + m : Nat) : Int) (j : Int) = true := by rw [Jdp]; omega
  have la : i + m < y.l.length := by omega
  have ga := Qb la
  have va : y.l[i + m]? = x.l[i + m]? := by rw [h5]; rw [if_neg (by omega)]
  have hvt : VT y.l[i + m] := by
   rw [List.getElem?_eq_getElem la] at va
   exact hv _ (List.mem_of_getElem? va.symm)
  by_cases hc : y.l[i + m].Closed = true
  ·refine ⟨(y, ((i + m + 1 : Nat) : Int)), by simp only [Jb, jr, c, if_true, ga, hc, Y4, if_false, Bool.false_eq_true, zf (i := i + m) (by omega)], ⟨m + 1, rfl, by omega, h4, fun q => ?_⟩, by simp only; omega⟩
   rw [h5 q]
   by_cases hq : q = i + m
   ·subst hq
    rw [if_neg (by omega), if_pos (by omega), ← va, List.getElem?_eq_getElem la, Option.map_some, tr, if_pos hc]
   ·by_cases hc2 : i ≤ q ∧ q < i + m
    ·rw [if_pos hc2, if_pos (by omega)]
    ·rw [if_neg hc2, if_neg (by omega)]
  ·have hf : bnot y.l[i + m].Closed = true := by rw [Jce]; exact hc
   refine ⟨(fset y ((i + m : Nat) : Int) (tr y.l[i + m]), ((i + m + 1 : Nat) : Int)), ?_, ⟨m + 1, rfl, by omega, by simp only [Jb, Jic, List.length_set]; exact h4, fun q => ?_⟩, by simp only; omega⟩
   ·simp only [Jb, jr, c, if_true, ga, hf, Jot hvt, zf (i := i + m) (by omega)]
    rw [tr, if_neg hc]
   ·simp only [Jb, Jic, Int.toNat_natCast]
    rw [List.getElem?_set]
    by_cases hq : i + m = q
    ·subst hq
     rw [if_pos rfl, if_pos la, if_pos (by omega), ← va, List.getElem?_eq_getElem la, Option.map_some]
    ·rw [if_neg hq, h5 q]
     by_cases hc2 : i ≤ q ∧ q < i + m
     ·rw [if_pos hc2, if_pos (by omega)]
     ·rw [if_neg hc2, if_neg (by omega)]
 ·right
  have c : ile ((i + m : Nat) : Int) (j : Int) = false := by rw [← Bool.not_eq_true, Jdp]; omega
  refine ⟨y, by simp only [Jb, jr, c, if_false, Bool.false_eq_true], h4, fun q => ?_⟩
  rw [h5 q]
  by_cases hc : i ≤ q ∧ q < i + m
  ·rw [if_pos hc, if_pos (by omega)]
  ·rw [if_neg hc, if_neg (by omega)]
def revP (l : List Jd) (i j : Nat) : List Jd := l.take i ++ (((l.drop i).take (j + 1 - i)).reverse.map tr ++ l.drop (j + 1))
theorem revP_get {l : List Jd} {i j : Nat} (hij : i ≤ j) (hj : j < l.length) (q : Nat) : (revP l i j)[q]? = if i ≤ q ∧ q ≤ j then (l[i + j - q]?).map tr else l[q]? := by
 unfold revP
 have l1 : (l.take i).length = i := by rw [List.length_take]; omega
 have l2 : ((l.drop i).take (j + 1 - i)).length = j + 1 - i := by rw [List.length_take, List.length_drop]; omega
 by_cases h1 : q < i
 ·rw [List.getElem?_append_left (by omega), List.getElem?_take, if_pos h1, if_neg (by omega)]
 ·rw [List.getElem?_append_right (by omega), l1]
  by_cases h2 : q ≤ j
  ·rw [List.getElem?_append_left (by rw [List.length_map, List.length_reverse]; omega), List.getElem?_map, List.getElem?_reverse (by omega), l2, List.getElem?_take, if_pos (by omega), List.getElem?_drop, if_pos (by omega)]
   congr 2; omega
  ·rw [List.getElem?_append_right (by rw [List.length_map, List.length_reverse]; omega), List.length_map, List.length_reverse, l2, List.getElem?_drop, if_neg (by omega)]
   congr 1; omega
theorem Jo9 {l : List Jd} {i j : Nat} (hv : ∀ t ∈ l, VT t) : ∀ t ∈ revP l i j, VT t := by
 intro t ht
 simp only [Jb, revP, List.mem_append, List.mem_map, List.mem_reverse] at ht
 rcases ht with ht | ⟨u, hu, rfl⟩ | ht
 ·exact hv t (List.mem_of_mem_take ht)
 ·exact (tr_ok (hv u (List.mem_of_mem_drop (List.mem_of_mem_take hu)))).1
 ·exact hv t (List.mem_of_mem_drop ht)
theorem Jux {l : List Jd} {i j : Nat} (hij : i ≤ j) (hj : j < l.length) : (revP l i j).length = l.length := by
 unfold revP
 simp only [Jb, List.length_append, List.length_map, List.length_reverse, List.length_take, List.length_drop]
 omega
theorem Jqs : ∀ {l : List Jd}, (∀ t ∈ l, VT t) → (Ja4 (l.map tr)).Perm (Ja4 l)
 | [], _ => .refl _
 | t :: l, hv => by
  simp only [Jb, Ja4, List.map_cons, List.flatMap_cons]
  exact (tr_ok (hv t (List.mem_cons_self ..))).2.append (Jqs fun u hu => hv u (List.mem_cons_of_mem _ hu))
theorem Js8 {l m : List Jd} (h : l.Perm m) : (Ja4 l).Perm (Ja4 m) := h.flatMap_right _
theorem Ju8 {l : List Jd} {i j : Nat} (hij : i ≤ j) (hv : ∀ t ∈ l, VT t) : (Ja4 (revP l i j)).Perm (Ja4 l) := by
 have hl : l = l.take i ++ ((l.drop i).take (j + 1 - i) ++ l.drop (j + 1)) := by
  have h1 : l.drop (j + 1) = (l.drop i).drop (j + 1 - i) := by rw [List.drop_drop]; congr 1; omega
  rw [h1, List.take_append_drop, List.take_append_drop]
 conv => rhs; rw [hl]
 unfold revP
 simp only [Jb, Ja4, List.flatMap_append]
 refine List.Perm.append_left _ (List.Perm.append_right _ ?_)
 rw [List.map_reverse]
 refine (Js8 (List.reverse_perm _)).trans (Jqs fun t ht => hv t (List.mem_of_mem_drop (List.mem_of_mem_take ht)))
inductive Imp (p : Ja) : Nat → List Jd → List Jd → Prop where
 | zero (l : List Jd) : Imp p 0 l l
 | stop (n : Nat) (l : List Jd) (h : NoLow p l) : Imp p (n + 1) l l
 | go (n i j : Nat) (l r : List Jd) (h : Jpt p l i j) (hr : Imp p n (revP l i j) r) : Imp p (n + 1) l r
theorem Jqz {p : Ja} (hp : InR p) (x : FS Jd) (hv : ∀ t ∈ x.l, VT t) (hL : x.l.length ≤ 100000) (n : Nat) (hn : n ≤ 64) : ∃ out, Ky (jq p) bigN (x, (n : Int)) = some out ∧ Imp p n x.l out.l := by
 refine Xd (body := jq p) (fun s => ∃ m : Nat, s.2 = m ∧ m ≤ 64 ∧ (∀ t ∈ s.1.l, VT t) ∧ s.1.l.length ≤ 100000 ∧ ∀ r, Imp p m s.1.l r → Imp p n x.l r) (fun s => s.2.toNat) (fun out => Imp p n x.l out.l) ?_ bigN (x, (n : Int)) ⟨n, rfl, hn, hv, hL, fun r hr => hr⟩ (Xn (by simp only; omega))
 rintro ⟨y, b⟩ ⟨m, h1, h2, h3, h4, h5⟩
 simp only at h1 h3 h4 h5 ⊢
 subst h1
 cases m with
 | zero =>
  right
  have c : igt ((0 : Nat) : Int) 0 = false := rfl
  exact ⟨y, by simp only [Jb, jq, c, if_false, Bool.false_eq_true], h5 _ (.zero _)⟩
 | succ m =>
  have c : igt ((m + 1 : Nat) : Int) 0 = true := Jea (by omega)
  have ep := Jw3 p y h3 h4
  have eq0 : ieq (flen y) (flen y) = true := Jhh rfl
  rcases step_ok hp h3 h4 with ⟨i, j, es, hf⟩ | ⟨es, hno⟩
  ·left
   obtain ⟨z, ez, zl, hz⟩ := swap_ok h4 hf.le hf.lt p ((m + 1 : Nat) : Int) (i : Int) (j : Int)
   have hzv : ∀ t ∈ z.l, VT t := fun t ht => by
    obtain ⟨q, hq⟩ := List.getElem?_of_mem ht
    rw [hz q] at hq
    split at hq
    ·exact h3 t (List.mem_of_getElem? hq)
    ·exact h3 t (List.mem_of_getElem? hq)
   obtain ⟨w, ew, wl, hw⟩ := flip_ok hzv (by omega) hf.le (by rw [zl]; exact hf.lt) p ((m + 1 : Nat) : Int)
   have hwr : w.l = revP y.l i j := by
    apply List.ext_getElem?
    intro q
    rw [hw q, revP_get hf.le hf.lt q]
    by_cases hq : i ≤ q ∧ q ≤ j
    ·rw [if_pos hq, if_pos hq, hz q, if_pos hq]
    ·rw [if_neg hq, if_neg hq, hz q, if_neg hq]
   have sm : isub .i64 ((m + 1 : Nat) : Int) 1 = ((m : Nat) : Int) := by rw [Zj (by omega) (by omega)]; omega
   refine ⟨(w, ((m : Nat) : Int)), by simp only [Jb, jq, c, if_true, ep, eq0, es, Y4, if_false, Bool.false_eq_true, ez, ew, sm], ⟨m, rfl, by omega, ?_, ?_, fun r hr => h5 r (.go m i j _ r hf ?_)⟩, by simp only; omega⟩
   ·simp only [Jb, hwr]; exact Jo9 h3
   ·simp only [Jb, hwr, Jux hf.le hf.lt]; exact h4
   ·simp only [Jb, hwr] at hr; exact hr
  ·right
   exact ⟨y, by simp only [Jb, jq, c, if_true, ep, eq0, es, Zn], h5 _ (.stop m _ hno)⟩
theorem Jva {p : Ja} (hp : InR p) (x : FS Jd) (hv : ∀ t ∈ x.l, VT t) (hL : x.l.length ≤ 100000) (n : Nat) (hn : n ≤ 64) : ∃ out, Jb4 p x (n : Int) = some out ∧ Imp p n x.l out.l := by
 obtain ⟨y, ey, hy⟩ := Jur x hv (by omega)
 obtain ⟨out, eo, ho⟩ := Jqz hp y (by rw [hy]; exact hv) (by rw [hy]; exact hL) n hn
 refine ⟨out, ?_, by rw [hy] at ho; exact ho⟩
 have hm : imin (n : Int) 64 = n := by rw [imin_eq]; omega
 unfold Jb4
 rw [if_neg (by rw [Jce, Jq2]; exact fun h => h hp), ey, hm]; try simp only [Jb]
 simp only [Jb, eo]
theorem Imp.props {p : Ja} {n : Nat} {l r : List Jd} (h : Imp p n l r) : (∀ t ∈ l, VT t) → (∀ t ∈ r, VT t) ∧ r.length = l.length ∧ (Ja4 r).Perm (Ja4 l) := by
 induction h with
 | zero l => exact fun hv => ⟨hv, rfl, .refl _⟩
 | stop n l h => exact fun hv => ⟨hv, rfl, .refl _⟩
 | go n i j l r h hr ih =>
  intro hv
  obtain ⟨h1, h2, h3⟩ := ih (Jo9 hv)
  exact ⟨h1, by rw [h2, Jux h.le h.lt], h3.trans (Ju8 h.le hv)⟩
end Go.Proofs.Ytemehoioeoohmaa
