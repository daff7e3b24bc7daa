/- region: what it is for a region to be valid and to contain a cell, in plain Lean; the program's text and the reference's say so. Conditions: none. -/
import Derived.Test.YtemehoioeoohmaaTg
import Derived.Test.YtemehoioeoohmaaPy
namespace Go.Vv
open Go
theorem Jjc {R : Type} (body : Int → Option (LR Int R)) (n : Nat) (hn : n ≤ 9223372036854775807) (good : Nat → Prop) (bad : Nat → R) (fin : R)
  (h1 : ∀ i : Nat, i < n → (∀ j, j < i → good j) → (good i → body i = some (.nx ((i + 1 : Nat) : Int))) ∧ (¬ good i → body i = some (.dn (bad i)))) (h2 : (∀ i, i < n → good i) → body n = some (.dn fin)) :
  ∃ r, Ky body bigN 0 = some r ∧ ((r = fin ∧ ∀ i, i < n → good i) ∨ ∃ i, i < n ∧ r = bad i ∧ ¬ good i ∧ ∀ j, j < i → good j) := by
 refine Xd (body := body) (fun s => ∃ i : Nat, s = i ∧ i ≤ n ∧ ∀ j, j < i → good j) (fun s => ((n : Int) - s).toNat) _ ?_ bigN 0 ⟨0, rfl, by omega, fun j hj => by omega⟩ (by rw [bigN_eq]; omega)
 rintro s ⟨i, rfl, hi, hg⟩
 by_cases hin : i < n
 ·by_cases hgi : good i
  ·refine .inl ⟨_, (h1 i hin hg).1 hgi, ⟨i + 1, rfl, by omega, fun j hj => ?_⟩, by omega⟩
   by_cases hji : j = i
   ·rw [hji]; exact hgi
   ·exact hg j (by omega)
  ·exact .inr ⟨_, (h1 i hin hg).2 hgi, .inr ⟨i, hin, rfl, hgi, hg⟩⟩
 ·have : i = n := by omega
  subst this
  exact .inr ⟨_, h2 hg, .inl ⟨rfl, hg⟩⟩
theorem Qb {α : Type} {x : FS α} {i : Nat} (h : i < x.l.length) : fget x (i : Int) = some x.l[i] := Jam (List.getElem?_eq_getElem h)
theorem Jha {α : Type} {x : FS α} {i : Nat} (h0 : 0 < i) (h : i < x.l.length) (hb : x.l.length ≤ 9223372036854775807) : fget x (isub .i64 (i : Int) 1) = some (x.l[i - 1]'(by omega)) := by
 rw [Zj (by omega) (by omega)]
 have : (i : Int) - 1 = ((i - 1 : Nat) : Int) := by omega
 rw [this]; try rw [Jb]
 exact Qb (by omega)
theorem zf {i : Nat} (h : i ≤ 9223372036854775806) : iadd .i64 (i : Int) 1 = ((i + 1 : Nat) : Int) := by rw [Jbb (by omega) (by omega)]; omega
end Go.Vv
namespace Go.Proofs.Ytemehoioeoohmaa
open Go Go.Vv Go.Proofs
set_option linter.unusedSimpArgs false
set_option linter.unusedVariables false
set_option linter.unusedSectionVars false
def Lim (r : Ji) : Prop := r.Rows.l.length ≤ 1000000 ∧ ∀ w ∈ r.Rows.l, w.Runs.l.length ≤ 1000000
def Big (r : Ji) : Prop := r.Rows.l.length ≤ 9223372036854775807 ∧ ∀ w ∈ r.Rows.l, w.Runs.l.length ≤ 9223372036854775807
theorem Lim.big {r : Ji} (h : Lim r) : Big r := ⟨by have := h.1; omega, fun w hw => by have := h.2 w hw; omega⟩
def Jjx (lo hi : Int) (l : List Jf) (i : Nat) : Prop := ∀ r, l[i]? = some r → lo ≤ r.From ∧ r.From < r.To ∧ r.To ≤ hi ∧ ∀ p, 0 < i → l[i - 1]? = some p → p.To < r.From
def Jix (lo hi : Int) (l : List Jf) : Prop := ∀ i, i < l.length → Jjx lo hi l i
theorem Jpp (r : Jf) : Jav r = true ↔ -1048576 ≤ r.From ∧ r.From ≤ 1048576 ∧ -1048576 ≤ r.To ∧ r.To ≤ 1048576 := by
 simp only [Jb, Jav, Jbl, Jbc, Jdp]; omega
theorem Jk1 (x : FS Jf) (hL : x.l.length ≤ 9223372036854775807) : ∃ b, Jc6 x = some b ∧ (b = true ↔ Jix (-1048576) 1048576 x.l) := by
 obtain ⟨r, e, hr⟩ := Jjc (Z8 x x (flen x)) x.l.length (by omega) (fun i => Jjx (-1048576) 1048576 x.l i) (fun _ => .inl false) (.inr ())
  (fun i hi hg => by
   have g1 := Qb hi
   have c1 : ilt (i : Int) (flen x) = true := Ye (by rw [Js]; omega)
   have key : ∀ b : Bool, (b = true ↔ ¬ Jjx (-1048576) 1048576 x.l i) → Z8 x x (flen x) i = (if b = true then some (.dn (.inl false)) else some (.nx ((i + 1 : Nat) : Int))) → (Jjx (-1048576) 1048576 x.l i → Z8 x x (flen x) i = some (.nx ((i + 1 : Nat) : Int))) ∧ (¬ Jjx (-1048576) 1048576 x.l i → Z8 x x (flen x) i = some (.dn (.inl false))) := fun b hb he => by
    refine ⟨fun h => ?_, fun h => ?_⟩
    ·rw [he, if_neg (fun h2 => hb.1 h2 h)]
    ·rw [he, if_pos (hb.2 h)]
   by_cases h0 : 0 < i
   ·have g2 := Jha h0 hi (by omega)
    have c2 : igt (i : Int) 0 = true := Jea (by omega)
    by_cases hc : bor (ige (x.l[i]).From (x.l[i]).To) (bnot (Jav x.l[i])) = true
    ·refine key true ⟨fun _ hgd => ?_, fun _ => rfl⟩ ?_
     ·have := hgd _ (List.getElem?_eq_getElem hi)
      rw [Jaw, Jce, Jpp, Jbc] at hc
      omega
     ·simp only [Jb, Z8, c1, if_true, g1, hc, Y4, Jb7, Zi, Jg5]
    ·rw [Bool.not_eq_true] at hc
     refine key (ile (x.l[i]).From (x.l[i - 1]'(by omega)).To) ?_ ?_
     ·rw [← Bool.not_eq_true, Jaw, Jce, Jpp, Jbc] at hc
      rw [Jdp]; try rw [Jb]
      constructor
      ·intro h1 h2
       have := (h2 _ (List.getElem?_eq_getElem hi)).2.2.2 _ h0 (List.getElem?_eq_getElem (by omega))
       omega
      ·intro h1
       by_cases h2 : (x.l[i]).From ≤ (x.l[i - 1]'(by omega)).To
       ·exact h2
       ·exfalso
        refine h1 fun r hr => ?_
        rw [List.getElem?_eq_getElem hi] at hr
        cases hr
        refine ⟨by omega, by omega, by omega, fun p _ hp => ?_⟩
        rw [List.getElem?_eq_getElem (by omega)] at hp
        cases hp
        omega
     ·simp only [Jb, Z8, c1, if_true, g1, hc, Zn, Ja3, c2, g2, Yp, Option.getD_some, Jdx, zf (i := i) (by omega)]
   ·have c2 : igt (i : Int) 0 = false := Jgc (by omega)
    refine key (bor (ige (x.l[i]).From (x.l[i]).To) (bnot (Jav x.l[i]))) ?_ ?_
    ·rw [Jaw, Jce, Jpp, Jbc]
     constructor
     ·intro h1 h2
      have := h2 _ (List.getElem?_eq_getElem hi)
      omega
     ·intro h1
      by_cases h2 : (x.l[i]).To ≤ (x.l[i]).From ∨ ¬ (-1048576 ≤ (x.l[i]).From ∧ (x.l[i]).From ≤ 1048576 ∧ -1048576 ≤ (x.l[i]).To ∧ (x.l[i]).To ≤ 1048576)
      ·exact h2
      ·exfalso
       refine h1 fun r hr => ?_
       rw [List.getElem?_eq_getElem hi] at hr
       cases hr
       exact ⟨by omega, by omega, by omega, fun p hp => by omega⟩
    ·simp only [Jb, Z8, c1, if_true, g1, c2, Jd6, Zi, Jb7, Jqo, zf (i := i) (by omega)])
  (fun _ => by simp only [Jb, Z8, Js, Yf (a := (x.l.length : Int)) (b := x.l.length) (by omega), Bool.false_eq_true, if_false])
 unfold Jc6
 rw [e]; try rw [Jb]; try simp only [Jb]
 rcases hr with ⟨rfl, hr⟩ | ⟨i, hi, rfl, hr, -⟩
 ·exact ⟨true, rfl, fun _ => hr, fun _ => rfl⟩
 ·exact ⟨false, rfl, by simp only [Jb, Bool.false_eq_true, false_iff]; exact fun h => hr (h i hi)⟩
theorem Jpc {lo hi : Int} {l : List Jf} (h : Jix lo hi l) : ∀ (i : Nat) (r r0 : Jf), l[i]? = some r → l[0]? = some r0 → r0.From ≤ r.From
 | 0, r, r0, hr, h0 => by rw [hr] at h0; cases h0; omega
 | i + 1, r, r0, hr, h0 => by
  have hlt := (List.getElem?_eq_some_iff.1 hr).1
  have hp := List.getElem?_eq_getElem (l := l) (i := i) (by omega)
  have ih := Jpc h i _ _ hp h0
  have h1 := (h (i + 1) hlt _ hr).2.2.2 _ (by omega) hp
  have h2 := (h i (by omega) _ hp).2.1
  omega
theorem Jpn {lo hi : Int} {l : List Jf} (h : Jix lo hi l) : ∀ (k i : Nat) (r r1 : Jf), i + k + 1 = l.length → l[i]? = some r → l[l.length - 1]? = some r1 → r.To ≤ r1.To
 | 0, i, r, r1, hk, hr, h1 => by
  have : l.length - 1 = i := by omega
  rw [this, hr] at h1; cases h1; omega
 | k + 1, i, r, r1, hk, hr, h1 => by
  have hp := List.getElem?_eq_getElem (l := l) (i := i + 1) (by omega)
  have ih := Jpn h k (i + 1) _ _ (by omega) hp h1
  have a1 := (h (i + 1) (by omega) _ hp).2.2.2 r (by omega) hr
  have a2 := (h (i + 1) (by omega) _ hp).2.1
  omega
theorem Jvy {l : List Jf} (h : Jix (-1048576) 1048576 l) (hne : 0 < l.length) : Jix (-4096) 4096 l ↔ -4096 ≤ (l[0]).From ∧ (l[l.length - 1]'(by omega)).To ≤ 4096 := by
 constructor
 ·intro hv
  exact ⟨(hv 0 hne _ (List.getElem?_eq_getElem hne)).1, (hv (l.length - 1) (by omega) _ (List.getElem?_eq_getElem (by omega))).2.2.1⟩
 ·rintro ⟨h0, h1⟩ i hi r hr
  have a := h i hi r hr
  have b := Jpc h i r _ hr (List.getElem?_eq_getElem hne)
  have c := Jpn h (l.length - 1 - i) i r _ (by omega) hr (List.getElem?_eq_getElem (by omega))
  exact ⟨by omega, a.2.1, by omega, a.2.2.2⟩
def Jp3 (r : Ji) (i : Nat) : Prop := ∀ w, r.Rows.l[i]? = some w → -4096 ≤ w.Y ∧ w.Y < 4096 ∧ w.Runs.l ≠ [] ∧ Jix (-4096) 4096 w.Runs.l ∧ ∀ p, 0 < i → r.Rows.l[i - 1]? = some p → p.Y < w.Y
def Jcc (r : Ji) : Prop := ∀ i, i < r.Rows.l.length → Jp3 r i
theorem Jn8 (x : Int) : Kx x = true ↔ -4096 ≤ x ∧ x < 4096 := by simp only [Jb, Kx, Jbl, Jbc, jv]
theorem Jhm {r : Ji} {i : Nat} (hi : i < r.Rows.l.length) : Jp3 r i ↔ -4096 ≤ (r.Rows.l[i]).Y ∧ (r.Rows.l[i]).Y < 4096 ∧ (r.Rows.l[i]).Runs.l ≠ [] ∧ Jix (-4096) 4096 (r.Rows.l[i]).Runs.l ∧ (∀ _ : 0 < i, (r.Rows.l[i - 1]'(by omega)).Y < (r.Rows.l[i]).Y) := by
 constructor
 ·intro h
  have a := h _ (List.getElem?_eq_getElem hi)
  exact ⟨a.1, a.2.1, a.2.2.1, a.2.2.2.1, fun h0 => a.2.2.2.2 _ h0 (List.getElem?_eq_getElem (by omega))⟩
 ·intro h w hw
  rw [List.getElem?_eq_getElem hi] at hw
  cases hw
  refine ⟨h.1, h.2.1, h.2.2.1, h.2.2.2.1, fun p h0 hp => ?_⟩
  rw [List.getElem?_eq_getElem (by omega)] at hp
  cases hp
  exact h.2.2.2.2 h0
theorem Jad {S R : Type} {P : Prop} {o : Option (LR S R)} {x y : Option (LR S R)} (b : Bool) (hb : b = true ↔ ¬ P) (he : o = if b = true then x else y) : (P → o = y) ∧ (¬ P → o = x) := by
 refine ⟨fun h => ?_, fun h => ?_⟩
 ·rw [he, if_neg (fun h2 => hb.1 h2 h)]
 ·rw [he, if_pos (hb.2 h)]
theorem Jia (r : Ji) (hL : Big r) : ∃ b, Jbx r = some b ∧ (b = true ↔ Jcc r) := by
 obtain ⟨hL1, hL2⟩ := hL
 obtain ⟨x, e, hr⟩ := Jjc (jg r r.Rows (flen r.Rows)) r.Rows.l.length (by omega) (fun i => Jp3 r i) (fun _ => .inl false) (.inr ())
  (fun i hi hg => by
   have g1 := Qb hi
   have c1 : ilt (i : Int) (flen r.Rows) = true := Ye (by rw [Js]; omega)
   have hrl := hL2 _ (List.getElem_mem hi)
   obtain ⟨bv, ev, hv⟩ := Jk1 (r.Rows.l[i]).Runs hrl
   have hgood := Jhm hi
   generalize hw : r.Rows.l[i] = w at g1 hrl ev hv hgood
   have pre : ∃ p : Bool, (p = true ↔ ¬ (-4096 ≤ w.Y ∧ w.Y < 4096 ∧ (∀ _ : 0 < i, (r.Rows.l[i - 1]'(by omega)).Y < w.Y))) ∧ jg r r.Rows (flen r.Rows) i =
     (J3 (gOpt (bnot (bor p (ieq (flen w.Runs) 0))) (Jc6 w.Runs)) fun v11 => (if (bor (bor p (ieq (flen w.Runs) 0)) (bnot (v11.getD false))) = true then some (.dn (.inl false))
       else (J3 (fget w.Runs 0) fun v15 => (J3 (gOpt (bnot (bnot (Kx v15.From))) (fget w.Runs (isub .i64 (flen w.Runs) 1))) fun v19 => (if (bor (bnot (Kx v15.From)) (bnot (Kx (isub .i64 (((v19.getD (⟨0, 0⟩ : Jf))).To) 1)))) = true then some (.dn (.inl false))
          else some (.nx (iadd .i64 i 1))))))) := by
    by_cases h0 : 0 < i
    ·have g2 := Jha h0 hi (by omega)
     have c2 : igt (i : Int) 0 = true := Jea (by omega)
     by_cases hy : Kx w.Y = true
     ·refine ⟨ile w.Y (r.Rows.l[i - 1]'(by omega)).Y, ?_, ?_⟩
      ·rw [Jdp]; try rw [Jb]
       have := (Jn8 _).1 hy
       constructor
       ·intro h1 h2
        have := h2.2.2 h0
        omega
       ·intro h1
        by_cases h2 : w.Y ≤ (r.Rows.l[i - 1]'(by omega)).Y
        ·exact h2
        ·exact absurd ⟨this.1, this.2, fun _ => by omega⟩ h1
      ·simp only [Jb, jg, c1, if_true, g1, hy, Y4, Zn, Ja3, c2, g2, Yp, Option.getD_some, Jdx]
     ·rw [Bool.not_eq_true] at hy
      refine ⟨true, ?_, ?_⟩
      ·have : ¬ Kx w.Y = true := by rw [hy]; simp
       rw [Jn8] at this
       simp only [Jb, true_iff]
       exact fun h2 => this ⟨h2.1, h2.2.1⟩
      ·simp only [Jb, jg, c1, if_true, g1, hy, Y4, Zn, Jb7, Zi, Jg5]
    ·have c2 : igt (i : Int) 0 = false := Jgc (by omega)
     refine ⟨bnot (Kx w.Y), ?_, ?_⟩
     ·rw [Jce, Jn8]
      constructor
      ·exact fun h1 h2 => h1 ⟨h2.1, h2.2.1⟩
      ·exact fun h1 h2 => h1 ⟨h2.1, h2.2, fun h3 => absurd h3 h0⟩
     ·simp only [Jb, jg, c1, if_true, g1, c2, Jd6, Zi, Jb7, Jqo]
   obtain ⟨p, hp, he⟩ := pre
   rw [zf (i := i) (by omega)] at he
   by_cases hpt : p = true
   ·refine Jad true ⟨fun _ hg2 => ?_, fun _ => rfl⟩ ?_
    ·have := hgood.1 hg2
     exact hp.1 hpt ⟨this.1, this.2.1, this.2.2.2.2⟩
    ·rw [he, hpt]; simp only [Jb, Jg5, Y4, Zi, if_true]
   ·have hpf : p = false := by simpa using hpt
    have hpo : -4096 ≤ w.Y ∧ w.Y < 4096 ∧ (∀ _ : 0 < i, (r.Rows.l[i - 1]'(by omega)).Y < w.Y) := by
     by_cases h2 : -4096 ≤ w.Y ∧ w.Y < 4096 ∧ (∀ _ : 0 < i, (r.Rows.l[i - 1]'(by omega)).Y < w.Y)
     ·exact h2
     ·exact absurd (hp.2 h2) hpt
    rw [hpf] at he
    simp only [Jb, Jdx] at he
    by_cases hz : w.Runs.l.length = 0
    ·have c3 : ieq (flen w.Runs) 0 = true := Jhh (by rw [Js]; omega)
     refine Jad true ⟨fun _ hg2 => ?_, fun _ => rfl⟩ ?_
     ·exact (hgood.1 hg2).2.2.1 (List.length_eq_zero_iff.1 hz)
     ·rw [he, c3]; simp only [Jb, Jg5, Y4, Zi, if_true]
    ·have c3 : ieq (flen w.Runs) 0 = false := Jem (by rw [Js]; omega)
     rw [c3] at he
     simp only [Jb, Zn, ev, Yp, Option.getD_some, Jdx] at he
     by_cases hbv : bv = true
     ·have hV := hv.1 hbv
      have hends := Jvy hV (by omega)
      rw [hbv] at he
      have s1 : isub .i64 (flen w.Runs) 1 = ((w.Runs.l.length - 1 : Nat) : Int) := by rw [Js, Zj (by omega) (by omega)]; omega
      have g3 : fget w.Runs 0 = some (w.Runs.l[0]'(by omega)) := Qb (i := 0) (by omega)
      have g4 := Qb (x := w.Runs) (i := w.Runs.l.length - 1) (by omega)
      have f0 := hV 0 (by omega) _ (List.getElem?_eq_getElem (by omega))
      have f1 := hV (w.Runs.l.length - 1) (by omega) _ (List.getElem?_eq_getElem (by omega))
      have ft := Jpn hV (w.Runs.l.length - 1) 0 _ _ (by omega) (List.getElem?_eq_getElem (by omega)) (List.getElem?_eq_getElem (by omega))
      have s2 : isub .i64 (w.Runs.l[w.Runs.l.length - 1]'(by omega)).To 1 = (w.Runs.l[w.Runs.l.length - 1]'(by omega)).To - 1 := Zj (by omega) (by omega)
      simp only [Jb, Y4, Bool.false_eq_true, if_false, g3, s1] at he
      refine Jad (bor (bnot (Kx (w.Runs.l[0]'(by omega)).From)) (bnot (Kx ((w.Runs.l[w.Runs.l.length - 1]'(by omega)).To - 1)))) ?_ ?_
      ·rw [Jaw, Jce, Jce, Jn8, Jn8, hgood, hends]
       constructor
       ·intro h1 h2
        have := h2.2.2.2.1
        omega
       ·intro h1
        by_cases h2 : -4096 ≤ (w.Runs.l[0]'(by omega)).From ∧ (w.Runs.l[w.Runs.l.length - 1]'(by omega)).To ≤ 4096
        ·exact absurd ⟨hpo.1, hpo.2.1, fun h3 => hz (by rw [h3]; rfl), h2, hpo.2.2⟩ h1
        ·omega
      ·rw [he]; try rw [Jb]
       by_cases ho : Kx (w.Runs.l[0]'(by omega)).From = true
       ·simp only [Jb, ho, Y4, Zn, g4, Yp, Option.getD_some, s2, Jdx]
       ·rw [Bool.not_eq_true] at ho
        simp only [Jb, ho, Y4, Zn, Zi, Jg5, if_true]
     ·have hbf : bv = false := by simpa using hbv
      rw [hbf] at he
      refine Jad true ⟨fun _ hg2 => ?_, fun _ => rfl⟩ ?_
      ·have h3 := (hgood.1 hg2).2.2.2.1
       exact hbv (hv.2 fun j hj q hq => by have := h3 j hj q hq; exact ⟨by omega, this.2.1, by omega, this.2.2.2⟩)
      ·rw [he]; simp only [Jb, Zn, if_true])
  (fun _ => by simp only [Jb, jg, Js, Yf (a := (r.Rows.l.length : Int)) (b := r.Rows.l.length) (by omega), Bool.false_eq_true, if_false])
 unfold Jbx
 rw [e]; try rw [Jb]; try simp only [Jb]
 rcases hr with ⟨rfl, hr⟩ | ⟨i, hi, rfl, hr, -⟩
 ·exact ⟨true, rfl, fun _ => hr, fun _ => rfl⟩
 ·exact ⟨false, rfl, by simp only [Jb, Bool.false_eq_true, false_iff]; exact fun h => hr (h i hi)⟩
theorem fine_ok (x : FS Jf) (hL : x.l.length ≤ 9223372036854775807) : ∃ b, z1 x = some b ∧ (b = true ↔ x.l ≠ [] ∧ Jix (-4096) 4096 x.l) := by
 obtain ⟨r, e, hr⟩ := Jjc (Xl x) x.l.length (by omega) (fun i => Jjx (-4096) 4096 x.l i) (fun _ => .inl false) (.inr ())
  (fun i hi hg => by
   have g1 := Qb hi
   have c1 : ilt (i : Int) (flen x) = true := Ye (by rw [Js]; omega)
   have hgr : Jjx (-4096) 4096 x.l i ↔ -4096 ≤ (x.l[i]).From ∧ (x.l[i]).From < (x.l[i]).To ∧ (x.l[i]).To ≤ 4096 ∧ (∀ _ : 0 < i, (x.l[i - 1]'(by omega)).To < (x.l[i]).From) := by
    constructor
    ·intro h
     have a := h _ (List.getElem?_eq_getElem hi)
     exact ⟨a.1, a.2.1, a.2.2.1, fun h0 => a.2.2.2 _ h0 (List.getElem?_eq_getElem (by omega))⟩
    ·intro h q hq
     rw [List.getElem?_eq_getElem hi] at hq
     cases hq
     refine ⟨h.1, h.2.1, h.2.2.1, fun p h0 hp => ?_⟩
     rw [List.getElem?_eq_getElem (by omega)] at hp
     cases hp
     exact h.2.2.2 h0
   generalize hq : x.l[i] = q at g1 hgr
   by_cases h0 : 0 < i
   ·have g2 := Jha h0 hi (by omega)
    have c2 : igt (i : Int) 0 = true := Jea (by omega)
    by_cases hc : bor (bor (ilt q.From (-4096)) (ige q.From q.To)) (igt q.To 4096) = true
    ·refine Jad true ⟨fun _ hgd => ?_, fun _ => rfl⟩ ?_
     ·have := hgr.1 hgd
      simp only [Jb, Jaw, jv, Jbc, Jew] at hc
      omega
     ·simp only [Jb, Xl, c1, if_true, g1, hc, Y4, Jb7, Zi, Jg5]
    ·rw [Bool.not_eq_true] at hc
     refine Jad (ile q.From (x.l[i - 1]'(by omega)).To) ?_ ?_
     ·rw [← Bool.not_eq_true] at hc
      simp only [Jb, Jaw, jv, Jbc, Jew] at hc
      rw [Jdp, hgr]
      constructor
      ·intro h1 h2
       have := h2.2.2.2 h0
       omega
      ·intro h1
       by_cases h2 : q.From ≤ (x.l[i - 1]'(by omega)).To
       ·exact h2
       ·exact absurd ⟨by omega, by omega, by omega, fun _ => by omega⟩ h1
     ·simp only [Jb, Xl, c1, if_true, g1, hc, Zn, Ja3, c2, g2, Yp, Option.getD_some, Jdx, zf (i := i) (by omega)]
   ·have c2 : igt (i : Int) 0 = false := Jgc (by omega)
    refine Jad (bor (bor (ilt q.From (-4096)) (ige q.From q.To)) (igt q.To 4096)) ?_ ?_
    ·simp only [Jb, Jaw, jv, Jbc, Jew]
     rw [hgr]; try rw [Jb]
     constructor
     ·intro h1 h2; omega
     ·intro h1
      by_cases h2 : (q.From < -4096 ∨ q.To ≤ q.From) ∨ 4096 < q.To
      ·exact h2
      ·exact absurd ⟨by omega, by omega, by omega, fun h3 => absurd h3 h0⟩ h1
    ·simp only [Jb, Xl, c1, if_true, g1, c2, Jd6, Zi, Jb7, Jqo, zf (i := i) (by omega)])
  (fun _ => by simp only [Jb, Xl, Js, Yf (a := (x.l.length : Int)) (b := x.l.length) (by omega), Bool.false_eq_true, if_false])
 unfold z1
 rw [e]; try rw [Jb]; try simp only [Jb]
 rcases hr with ⟨rfl, hr⟩ | ⟨i, hi, rfl, hr, -⟩
 ·refine ⟨_, rfl, ?_⟩
  rw [Jew, Js]
  constructor
  ·exact fun h => ⟨fun h2 => by rw [h2] at h; simp at h, hr⟩
  ·rintro ⟨h, -⟩
   have : x.l.length ≠ 0 := fun h2 => h (List.length_eq_zero_iff.1 h2)
   omega
 ·exact ⟨false, rfl, by simp only [Jb, Bool.false_eq_true, false_iff]; exact fun h => hr (h.2 i hi)⟩
theorem Jc9 (r : Ji) (hL : Big r) : ∃ b, K1 r = some b ∧ (b = true ↔ Jcc r) := by
 obtain ⟨hL1, hL2⟩ := hL
 obtain ⟨x, e, hr⟩ := Jjc (Qq r) r.Rows.l.length (by omega) (fun i => Jp3 r i) (fun _ => .inl false) (.inr ())
  (fun i hi hg => by
   have g1 := Qb hi
   have c1 : ilt (i : Int) (flen r.Rows) = true := Ye (by rw [Js]; omega)
   have hrl := hL2 _ (List.getElem_mem hi)
   obtain ⟨bv, ev, hv⟩ := fine_ok (r.Rows.l[i]).Runs hrl
   have hgood := Jhm hi
   generalize hw : r.Rows.l[i] = w at g1 hrl ev hv hgood
   have pre : ∃ p : Bool, (p = true ↔ ¬ (-4096 ≤ w.Y ∧ w.Y < 4096 ∧ (∀ _ : 0 < i, (r.Rows.l[i - 1]'(by omega)).Y < w.Y))) ∧ Qq r i =
     (J3 (gOpt (bnot p) (z1 w.Runs)) fun v11 => (if (bor p (bnot (v11.getD false))) = true then some (.dn (.inl false)) else some (.nx (iadd .i64 i 1)))) := by
    by_cases h0 : 0 < i
    ·have g2 := Jha h0 hi (by omega)
     have c2 : igt (i : Int) 0 = true := Jea (by omega)
     by_cases hy : bor (ilt w.Y (-4096)) (ige w.Y 4096) = true
     ·refine ⟨true, ?_, ?_⟩
      ·simp only [Jb, Jaw, jv, Jbc] at hy
       simp only [Jb, true_iff]
       exact fun h2 => by omega
      ·simp only [Jb, Qq, c1, if_true, g1, hy, Y4, Zn, Jb7, Zi, Jg5]
     ·rw [Bool.not_eq_true] at hy
      refine ⟨ile w.Y (r.Rows.l[i - 1]'(by omega)).Y, ?_, ?_⟩
      ·rw [← Bool.not_eq_true] at hy
       simp only [Jb, Jaw, jv, Jbc] at hy
       rw [Jdp]; try rw [Jb]
       constructor
       ·intro h1 h2
        have := h2.2.2 h0
        omega
       ·intro h1
        by_cases h2 : w.Y ≤ (r.Rows.l[i - 1]'(by omega)).Y
        ·exact h2
        ·exact absurd ⟨by omega, by omega, fun _ => by omega⟩ h1
      ·simp only [Jb, Qq, c1, if_true, g1, hy, Y4, Zn, Ja3, c2, g2, Yp, Option.getD_some, Jdx]
    ·have c2 : igt (i : Int) 0 = false := Jgc (by omega)
     refine ⟨bor (ilt w.Y (-4096)) (ige w.Y 4096), ?_, ?_⟩
     ·simp only [Jb, Jaw, jv, Jbc]
      constructor
      ·exact fun h1 h2 => by omega
      ·intro h1
       by_cases h2 : w.Y < -4096 ∨ 4096 ≤ w.Y
       ·exact h2
       ·exact absurd ⟨by omega, by omega, fun h3 => absurd h3 h0⟩ h1
     ·simp only [Jb, Qq, c1, if_true, g1, c2, Jd6, Zi, Jb7, Jqo]
   obtain ⟨p, hp, he⟩ := pre
   rw [zf (i := i) (by omega)] at he
   by_cases hpt : p = true
   ·refine Jad true ⟨fun _ hg2 => ?_, fun _ => rfl⟩ ?_
    ·have := hgood.1 hg2
     exact hp.1 hpt ⟨this.1, this.2.1, this.2.2.2.2⟩
    ·rw [he, hpt]; simp only [Jb, Jg5, Y4, Zi, if_true]
   ·have hpf : p = false := by simpa using hpt
    have hpo : -4096 ≤ w.Y ∧ w.Y < 4096 ∧ (∀ _ : 0 < i, (r.Rows.l[i - 1]'(by omega)).Y < w.Y) := by
     by_cases h2 : -4096 ≤ w.Y ∧ w.Y < 4096 ∧ (∀ _ : 0 < i, (r.Rows.l[i - 1]'(by omega)).Y < w.Y)
     ·exact h2
     ·exact absurd (hp.2 h2) hpt
    rw [hpf] at he
    simp only [Jb, Jdx, Zn, ev, Yp, Option.getD_some] at he
    refine Jad (bnot bv) ?_ he
    rw [Jce, hv, hgood]
    constructor
    ·exact fun h1 h2 => h1 ⟨h2.2.2.1, h2.2.2.2.1⟩
    ·exact fun h1 h2 => h1 ⟨hpo.1, hpo.2.1, h2.1, h2.2, hpo.2.2⟩)
  (fun _ => by simp only [Jb, Qq, Js, Yf (a := (r.Rows.l.length : Int)) (b := r.Rows.l.length) (by omega), Bool.false_eq_true, if_false])
 unfold K1
 rw [e]; try rw [Jb]; try simp only [Jb]
 rcases hr with ⟨rfl, hr⟩ | ⟨i, hi, rfl, hr, -⟩
 ·exact ⟨true, rfl, fun _ => hr, fun _ => rfl⟩
 ·exact ⟨false, rfl, by simp only [Jb, Bool.false_eq_true, false_iff]; exact fun h => hr (h i hi)⟩
theorem Jmv (r : Ji) (hL : Lim r) : ∃ b, Jbx r = some b ∧ (b = true ↔ Jcc r) := Jia r hL.big
theorem Jqy (r : Ji) (hL : Lim r) : ∃ b, K1 r = some b ∧ (b = true ↔ Jcc r) := Jc9 r hL.big
end Go.Proofs.Ytemehoioeoohmaa
namespace Go.Proofs.Ytemehoioeoohmaa
open Go Go.Vv Go.Proofs
set_option linter.unusedSimpArgs false
set_option linter.unusedVariables false
set_option linter.unusedSectionVars false
def HasX (l : List Jf) (x : Int) : Prop := ∃ q ∈ l, q.From ≤ x ∧ x < q.To
def In (r : Ji) (c : Ja) : Prop := Jcc r ∧ ∃ w ∈ r.Rows.l, w.Y = c.Y ∧ HasX w.Runs.l c.X
theorem u64w (x : Int) (h0 : 0 ≤ x) (h1 : x ≤ 9223372036854775807) : IntKind.wrap .u64 x = x := by
 have : IntKind.wrap .u64 x = x % 18446744073709551616 := rfl
 rw [this]; try rw [Jb]
 omega
theorem mid_eq {a : Int} (h0 : 0 ≤ a) (h1 : a ≤ 4611686018427387904) : icnv .i64 (ishr .u64 (icnv .u64 a) 1) = a / 2 := by
 unfold icnv ishr
 rw [u64w a h0 (by omega)]
 have e1 : (2 : Int) ^ (min (1 : Int).toNat IntKind.u64.bits) = 2 := by decide
 have e2 : a.fdiv 2 = a / 2 := by rw [Int.fdiv_eq_ediv_of_nonneg _ (by omega)]
 rw [e1, e2, w64 _ (by omega) (by omega)]
theorem cmp_ok (a b : Int) : Jd3 a b = some (if a < b then -1 else if b < a then 1 else 0) := by
 have n : ∀ x : Int, Jc5 x = false := fun x => by simp [Jc5, ine]
 unfold Jd3
 rw [n, n]; try simp only [Jb]
 simp only [Jb, Bool.false_eq_true, if_false]
 by_cases h1 : a < b
 ·rw [Ye h1, if_pos rfl, if_pos h1]
 ·rw [Yf h1, if_neg (by simp), if_neg h1]
  by_cases h2 : b < a
  ·rw [Jea h2, if_pos rfl, if_pos h2]
  ·rw [Jgc h2, if_neg (by simp), if_neg h2]
theorem Js7 (w : Jm) (y : Int) : Jcl w y = some (if w.Y < y then -1 else if y < w.Y then 1 else 0) := by
 unfold Jcl
 rw [cmp_ok]; rfl
theorem Jgk {r : Ji} (h : Jcc r) : ∀ (k i : Nat) (hk : i + k < r.Rows.l.length), 0 < k → (r.Rows.l[i]'(by omega)).Y < (r.Rows.l[i + k]).Y
 | 0, i, hk, h0 => by omega
 | k + 1, i, hk, _ => by
  have a := ((Jhm (i := i + (k + 1)) hk).1 (h _ hk)).2.2.2.2 (by omega)
  have e : i + (k + 1) - 1 = i + k := by omega
  simp only [Jb, e] at a
  by_cases h1 : 0 < k
  ·have := Jgk h k i (by omega) h1
   omega
  ·have : k = 0 := by omega
   subst this
   simpa using a
theorem Jh7 {r : Ji} (h : Jcc r) {i j : Nat} (hij : i ≤ j) (hj : j < r.Rows.l.length) : (r.Rows.l[i]'(by omega)).Y ≤ (r.Rows.l[j]).Y := by
 by_cases e : i = j
 ·subst e; omega
 ·have := Jgk h (j - i) i (by omega) (by omega)
  have e2 : i + (j - i) = j := by omega
  simp only [Jb, e2] at this
  omega
theorem Jvk (r : Ji) (hL : Lim r) (hv : Jcc r) (y : Int) : ∃ i : Nat, i ≤ r.Rows.l.length ∧ Ko r.Rows y = some ((i : Int), if h : i < r.Rows.l.length then decide ((r.Rows.l[i]).Y = y) else false) ∧
  (∀ k (hk : k < r.Rows.l.length), k < i → (r.Rows.l[k]).Y < y) ∧ (∀ k (hk : k < r.Rows.l.length), i ≤ k → y ≤ (r.Rows.l[k]).Y) := by
 obtain ⟨hL1, -⟩ := hL
 obtain ⟨x, e, i, rfl, hi, ha, hb⟩ := Xd (body := Ka r.Rows y (flen r.Rows))
  (fun s => ∃ i j : Nat, s = ((i : Int), (j : Int)) ∧ i ≤ j ∧ j ≤ r.Rows.l.length ∧ (∀ k (hk : k < r.Rows.l.length), k < i → (r.Rows.l[k]).Y < y) ∧ (∀ k (hk : k < r.Rows.l.length), j ≤ k → y ≤ (r.Rows.l[k]).Y))
  (fun s => (s.2 - s.1).toNat) (fun x => ∃ i : Nat, x = (i : Int) ∧ i ≤ r.Rows.l.length ∧ (∀ k (hk : k < r.Rows.l.length), k < i → (r.Rows.l[k]).Y < y) ∧ (∀ k (hk : k < r.Rows.l.length), i ≤ k → y ≤ (r.Rows.l[k]).Y))
  (by
   rintro s ⟨i, j, rfl, hij, hj, ha, hb⟩
   by_cases hlt : i < j
   ·left
    have em : icnv .i64 (ishr .u64 (icnv .u64 (iadd .i64 (i : Int) (j : Int))) 1) = (((i + j) / 2 : Nat) : Int) := by
     rw [Jbb (by omega) (by omega), mid_eq (by omega) (by omega)]; omega
    have hm : (i + j) / 2 < r.Rows.l.length := by omega
    have g := Qb hm
    have c1 : ilt (i : Int) (j : Int) = true := Ye (by omega)
    by_cases hy : (r.Rows.l[(i + j) / 2]).Y < y
    ·refine ⟨((((i + j) / 2 + 1 : Nat) : Int), (j : Int)), ?_, ⟨(i + j) / 2 + 1, j, rfl, by omega, hj, fun k hk hki => ?_, hb⟩, by simp only; omega⟩
     ·have : ilt (-1) 0 = true := rfl
      simp only [Jb, Ka, c1, if_true, em, g, Js7, if_pos hy, this, zf (i := (i + j) / 2) (by omega)]
     ·have := Jh7 hv (i := k) (j := (i + j) / 2) (by omega) hm
      omega
    ·refine ⟨((i : Int), (((i + j) / 2 : Nat) : Int)), ?_, ⟨i, (i + j) / 2, rfl, by omega, by omega, ha, fun k hk hki => ?_⟩, by simp only; omega⟩
     ·have c3 : ilt (if y < (r.Rows.l[(i + j) / 2]).Y then (1 : Int) else 0) 0 = false := by split <;> rfl
      simp only [Jb, Ka, c1, if_true, em, g, Js7, if_neg hy, c3, Bool.false_eq_true, if_false]
     ·have := Jh7 hv (i := (i + j) / 2) (j := k) (by omega) hk
      omega
   ·right
    have : i = j := by omega
    subst this
    have c1 : ilt (i : Int) (i : Int) = false := Yf (by omega)
    exact ⟨(i : Int), by simp only [Jb, Ka, c1, Bool.false_eq_true, if_false], i, rfl, hj, ha, hb⟩)
  bigN (0, flen r.Rows) ⟨0, r.Rows.l.length, rfl, by omega, by omega, fun k hk hki => by omega, fun k hk hki => by omega⟩ (Xn (by simp only [Jb, Js]; omega))
 refine ⟨i, hi, ?_, ha, hb⟩
 unfold Ko
 rw [e]; try rw [Jb]; try simp only [Jb]
 by_cases hin : i < r.Rows.l.length
 ·have c1 : ilt (i : Int) (flen r.Rows) = true := Ye (by rw [Js]; omega)
  have g := Qb hin
  rw [dif_pos hin]
  have hge := hb i hin (by omega)
  simp only [Jb, c1, g, Yp, Option.getD_some, Js7, Ja3]
  by_cases hy : (r.Rows.l[i]).Y = y
  ·rw [if_neg (by omega), if_neg (by omega)]
   simp [hy, ieq]
  ·rw [if_neg (by omega), if_pos (by omega)]
   simp [hy, ieq]
 ·have c1 : ilt (i : Int) (flen r.Rows) = false := Yf (by rw [Js]; omega)
  rw [dif_neg hin]
  simp only [Jb, c1, Zi, Jb7]
theorem row_ok (r : Ji) (hL : Lim r) (hv : Jcc r) (y : Int) : ∃ s, Jeo r y = some s ∧ ((∃ w ∈ r.Rows.l, w.Y = y ∧ s = w.Runs) ∨ (s = .nil ∧ ∀ w ∈ r.Rows.l, w.Y ≠ y)) := by
 obtain ⟨i, hi, e, ha, hb⟩ := Jvk r hL hv y
 unfold Jeo
 rw [e]; try rw [Jb]; try simp only [Jb]
 by_cases hin : i < r.Rows.l.length
 ·by_cases hy : (r.Rows.l[i]).Y = y
  ·refine ⟨(r.Rows.l[i]).Runs, ?_, .inl ⟨_, List.getElem_mem hin, hy, rfl⟩⟩
   simp only [Jb, dif_pos hin, hy, decide_true, Y4, Bool.false_eq_true, if_false, Qb hin]
  ·refine ⟨.nil, ?_, .inr ⟨rfl, fun w hw => ?_⟩⟩
   ·simp only [Jb, dif_pos hin, hy, decide_false, Zn, if_true]
   ·obtain ⟨k, hk, rfl⟩ := List.getElem_of_mem hw
    by_cases hki : k < i
    ·have := ha k hk hki; omega
    ·have h1 := hb i hin (by omega)
     have h2 := Jh7 hv (i := i) (j := k) (by omega) hk
     omega
 ·refine ⟨.nil, ?_, .inr ⟨rfl, fun w hw => ?_⟩⟩
  ·simp only [Jb, dif_neg hin, Zn, if_true]
  ·obtain ⟨k, hk, rfl⟩ := List.getElem_of_mem hw
   have := ha k hk (by omega)
   omega
theorem Jly (x : FS Jf) (hL : x.l.length ≤ 1000000) (hv : Jix (-1048576) 1048576 x.l) (n : Int) : ∃ b, Jcz x n = some b ∧ (b = true ↔ HasX x.l n) := by
 obtain ⟨bv, ev, hbv⟩ := Jk1 x (by omega)
 rw [hbv.2 hv] at ev
 obtain ⟨r, e, hr⟩ := Jjc (Kn x n (flen x)) x.l.length (by omega) (fun i => ∀ q, x.l[i]? = some q → ¬ (q.From ≤ n ∧ n < q.To)) (fun i => .inl (i : Int)) (.inr ())
  (fun i hi _ => by
   have g1 := Qb hi
   have c1 : ilt (i : Int) (flen x) = true := Ye (by rw [Js]; omega)
   have hiff : Jai x.l[i] n = true ↔ ¬ ∀ q, x.l[i]? = some q → ¬ (q.From ≤ n ∧ n < q.To) := by
    simp only [Jb, Jai, Jbl, Jdp, jv]
    constructor
    ·exact fun h h2 => h2 _ (List.getElem?_eq_getElem hi) h
    ·intro h
     by_cases h2 : (x.l[i]).From ≤ n ∧ n < (x.l[i]).To
     ·exact h2
     ·exact absurd (fun q hq => by rw [List.getElem?_eq_getElem hi] at hq; cases hq; exact h2) h
   refine Jad (Jai x.l[i] n) hiff ?_
   simp only [Jb, Kn, c1, if_true, g1, zf (i := i) (by omega)])
  (fun _ => by simp only [Jb, Kn, Js, Yf (a := (x.l.length : Int)) (b := x.l.length) (by omega), Bool.false_eq_true, if_false])
 unfold Jcz K5 Qg
 rw [ev, e]; try simp only [Jb]
 rcases hr with ⟨rfl, hr⟩ | ⟨i, hi, rfl, hr, -⟩
 ·refine ⟨false, rfl, ?_⟩
  simp only [Jb, Bool.false_eq_true, false_iff]
  rintro ⟨q, hq, h⟩
  obtain ⟨k, hk, rfl⟩ := List.getElem_of_mem hq
  exact hr k hk _ (List.getElem?_eq_getElem hk) h
 ·refine ⟨true, ?_, fun _ => ?_, fun _ => rfl⟩
  ·have : ige (i : Int) 0 = true := Jbc.2 (by omega)
   simp only [Jb, Y4, Bool.false_eq_true, if_false, this]
  ·by_cases h2 : (x.l[i]).From ≤ n ∧ n < (x.l[i]).To
   ·exact ⟨_, List.getElem_mem hi, h2⟩
   ·exact absurd (fun q hq => by rw [List.getElem?_eq_getElem hi] at hq; cases hq; exact h2) hr
theorem Jlr {r : Ji} (hv : Jcc r) {w : Jm} (hw : w ∈ r.Rows.l) : Jix (-4096) 4096 w.Runs.l := by
 obtain ⟨k, hk, rfl⟩ := List.getElem_of_mem hw
 exact ((Jhm hk).1 (hv k hk)).2.2.2.1
theorem Jxa {l : List Jf} (h : Jix (-4096) 4096 l) : Jix (-1048576) 1048576 l := fun i hi r hr => by
 have := h i hi r hr
 exact ⟨by omega, this.2.1, by omega, this.2.2.2⟩
theorem Jkk {r : Ji} (hv : Jcc r) {v w : Jm} (h1 : v ∈ r.Rows.l) (h2 : w ∈ r.Rows.l) (e : v.Y = w.Y) : v = w := by
 obtain ⟨i, hi, rfl⟩ := List.getElem_of_mem h1
 obtain ⟨j, hj, rfl⟩ := List.getElem_of_mem h2
 by_cases hij : i = j
 ·subst hij; rfl
 ·by_cases hlt : i < j
  ·have := Jgk hv (j - i) i (by omega) (by omega)
   have e2 : i + (j - i) = j := by omega
   simp only [Jb, e2] at this
   omega
  ·have := Jgk hv (i - j) j (by omega) (by omega)
   have e2 : j + (i - j) = i := by omega
   simp only [Jb, e2] at this
   omega
theorem Jn9 (r : Ji) (hL : Lim r) (c : Ja) : ∃ b, jh r c = some b ∧ (b = true ↔ In r c) := by
 obtain ⟨bv, ev, hbv⟩ := Jmv r hL
 unfold jh
 rw [ev]; try rw [Jb]; try simp only [Jb]
 by_cases hv : Jcc r
 ·rw [hbv.2 hv]
  obtain ⟨s, es, hs⟩ := row_ok r hL hv c.Y
  simp only [Jb, es, Yp, Option.getD_some, Ja3]
  rcases hs with ⟨w, hw, hy, rfl⟩ | ⟨rfl, hn⟩
  ·obtain ⟨b, eb, hb⟩ := Jly w.Runs (hL.2 w hw) (Jxa (Jlr hv hw)) c.X
   simp only [Jb, eb, Yp, Option.getD_some]
   refine ⟨b, rfl, ?_⟩
   rw [hb]; try rw [Jb]
   constructor
   ·exact fun h => ⟨hv, w, hw, hy, h⟩
   ·rintro ⟨-, v, hv2, hy2, h⟩
    rw [Jkk hv hw hv2 (by omega)]
    exact h
  ·obtain ⟨b, eb, hb⟩ := Jly .nil (by simp [FS.l]) (fun i hi => absurd hi (by simp [FS.l])) c.X
   simp only [Jb, eb, Yp, Option.getD_some]
   refine ⟨b, rfl, ?_⟩
   rw [hb]; try rw [Jb]
   constructor
   ·rintro ⟨q, hq, -⟩
    simp [FS.l] at hq
   ·rintro ⟨-, v, hv2, hy2, h⟩
    exact absurd hy2 (hn v hv2)
 ·have : bv = false := by rw [← Bool.not_eq_true]; exact fun h => hv (hbv.1 h)
  rw [this]; try rw [Jb]
  simp only [Jb, Zi, Jb7]
  exact ⟨false, rfl, by simp only [Jb, Bool.false_eq_true, false_iff]; exact fun h => hv h.1⟩
end Go.Proofs.Ytemehoioeoohmaa
namespace Go.Vv
theorem Jp8 : ∀ (n : Nat) (l : List Nat), l.Nodup → (∀ x ∈ l, x < n) → l.length ≤ n
 | 0, l, _, h => by
  cases l with
  | nil => simp
  | cons a r => exact absurd (h a (by simp)) (by omega)
 | n + 1, l, hd, h => by
  by_cases hm : n ∈ l
  ·have h1 : (l.erase n).length = l.length - 1 := List.length_erase_of_mem hm
   have h2 := Jp8 n (l.erase n) (hd.erase n) (fun x hx => by
    have hx2 := (List.Nodup.mem_erase_iff hd).1 hx
    have := h x hx2.2
    omega)
   omega
  ·have := Jp8 n l hd (fun x hx => by
    have h1 := h x hx
    have h2 : x ≠ n := fun e => hm (e ▸ hx)
    omega)
   omega
end Go.Vv
namespace Go.Proofs.Ytemehoioeoohmaa
open Go Go.Vv Go.Proofs
set_option linter.unusedSimpArgs false
set_option linter.unusedVariables false
set_option linter.unusedSectionVars false
def InR (c : Ja) : Prop := -4096 ≤ c.X ∧ c.X < 4096 ∧ -4096 ≤ c.Y ∧ c.Y < 4096
theorem Cell.ext' {a b : Ja} (h1 : a.X = b.X) (h2 : a.Y = b.Y) : a = b := by cases a; cases b; simp_all
theorem Jpk (a b : Ja) : K0 a b = true ↔ a = b := by
 simp only [Jb, K0, Jbl, Jif]
 constructor
 ·exact fun h => Cell.ext' h.1 h.2.1
 ·rintro rfl; exact ⟨rfl, rfl, trivial⟩
theorem q_eq (a b : Ja) : band (ieq a.X b.X) (band (ieq a.Y b.Y) true) = K0 a b := rfl
theorem Jmh {r : Ji} {c : Ja} (h : In r c) : InR c := by
 obtain ⟨hv, w, hw, hy, q, hq, h1, h2⟩ := h
 obtain ⟨k, hk, rfl⟩ := List.getElem_of_mem hw
 have a := (Jhm hk).1 (hv k hk)
 obtain ⟨j, hj, rfl⟩ := List.getElem_of_mem hq
 have b := a.2.2.2.1 j hj _ (List.getElem?_eq_getElem hj)
 exact ⟨by omega, by omega, by omega, by omega⟩
def cb (r : Ji) (c : Ja) : Bool := (jh r c).getD false
section
variable {r : Ji} (hL : Lim r)
include hL
theorem Jsz (c : Ja) : jh r c = some (cb r c) := by
 obtain ⟨b, e, -⟩ := Jn9 r hL c
 unfold cb; rw [e]; rfl
theorem Jqh (c : Ja) : cb r c = true ↔ In r c := by
 obtain ⟨b, e, hb⟩ := Jn9 r hL c
 unfold cb; rw [e]; exact hb
end
structure Seen where
 cell : Ja
 before : Int
def nbr (c : Ja) : Nat → Ja
 | 0 => ⟨c.X + 1, c.Y⟩
 | 1 => ⟨c.X - 1, c.Y⟩
 | 2 => ⟨c.X, c.Y + 1⟩
 | _ => ⟨c.X, c.Y - 1⟩
def fnd (Q : List Seen) (c : Ja) : Bool := Q.any fun x => K0 x.cell c
def Jjh (r : Ji) (Q : List Seen) (i k : Nat) : List Seen :=
 match Q[i]? with
 | none => Q
 | some s => if cb r (nbr s.cell k) = true ∧ fnd Q (nbr s.cell k) = false then Q ++ [⟨nbr s.cell k, (i : Int)⟩] else Q
def S (r : Ji) (a : Ja) : Nat → List Seen
 | 0 => [⟨a, -1⟩]
 | t + 1 => Jjh r (S r a t) (t / 4) (t % 4)
theorem Jiv (Q : List Seen) (c : Ja) : fnd Q c = true ↔ ∃ x ∈ Q, x.cell = c := by
 simp only [Jb, fnd, List.any_eq_true, Jpk]
theorem J21 (r : Ji) (Q : List Seen) (i k : Nat) : Q <+: Jjh r Q i k := by
 unfold Jjh
 split
 ·exact List.prefix_refl Q
 ·split
  ·exact List.prefix_append Q _
  ·exact List.prefix_refl Q
theorem Jt6 (r : Ji) (a : Ja) {t u : Nat} (h : t ≤ u) : S r a t <+: S r a u := by
 induction u with
 | zero =>
  have : t = 0 := by omega
  subst this; exact List.prefix_refl _
 | succ u ih =>
  by_cases e : t = u + 1
  ·subst e; exact List.prefix_refl _
  ·exact (ih (by omega)).trans (J21 r _ _ _)
theorem Jh2 {α : Type} {l m : List α} (h : l <+: m) {i : Nat} {x : α} (hi : l[i]? = some x) : m[i]? = some x := by
 obtain ⟨n, rfl⟩ := h
 rw [List.getElem?_append_left (List.getElem?_eq_some_iff.1 hi).1]
 exact hi
structure QOK (r : Ji) (a : Ja) (Q : List Seen) : Prop where
 first : Q[0]? = some ⟨a, -1⟩
 back : ∀ (j : Nat) (s : Seen), Q[j]? = some s → 0 < j → ∃ p : Nat, s.before = p ∧ p < j
 nodup : (Q.map (·.cell)).Nodup
 inr : ∀ s ∈ Q, In r s.cell
theorem QOK.ne {r : Ji} {a : Ja} {Q : List Seen} (h : QOK r a Q) : 0 < Q.length := (List.getElem?_eq_some_iff.1 h.first).1
theorem QOK.inj {r : Ji} {a : Ja} {Q : List Seen} (h : QOK r a Q) {i j : Nat} {x y : Seen} (hi : Q[i]? = some x) (hj : Q[j]? = some y) (e : x.cell = y.cell) : i = j := by
 have h1 : (Q.map (·.cell))[i]? = some x.cell := by rw [List.getElem?_map, hi]; rfl
 have h2 : (Q.map (·.cell))[j]? = some x.cell := by rw [List.getElem?_map, hj, e]; rfl
 have l1 := (List.getElem?_eq_some_iff.1 h1).1
 exact (List.getElem?_inj l1 h.nodup).1 (h1.trans h2.symm)
theorem visit_ok {r : Ji} (hL : Lim r) {a : Ja} {Q : List Seen} (h : QOK r a Q) (i k : Nat) : QOK r a (Jjh r Q i k) := by
 unfold Jjh
 split
 ·exact h
 ·rename_i s hs
  split
  ·rename_i hc
   have hi := (List.getElem?_eq_some_iff.1 hs).1
   refine ⟨?_, fun j x hx h0 => ?_, ?_, fun x hx => ?_⟩
   ·rw [List.getElem?_append_left h.ne]; exact h.first
   ·by_cases hj : j < Q.length
    ·rw [List.getElem?_append_left hj] at hx; exact h.back j x hx h0
    ·rw [List.getElem?_append_right (by omega)] at hx
     have : j - Q.length = 0 := by
      have := (List.getElem?_eq_some_iff.1 hx).1
      simp at this
      omega
     rw [this] at hx
     simp at hx
     subst hx
     exact ⟨i, rfl, by omega⟩
   ·rw [List.map_append, List.nodup_append]
    refine ⟨h.nodup, by simp, fun x hx y hy => ?_⟩
    simp only [Jb, List.map_cons, List.map_nil, List.mem_singleton] at hy
    subst hy
    rintro rfl
    obtain ⟨z, hz, e⟩ := List.mem_map.1 hx
    have := (Jiv Q (nbr s.cell k)).2 ⟨z, hz, e⟩
    rw [hc.2] at this
    cases this
   ·rw [List.mem_append, List.mem_singleton] at hx
    rcases hx with hx | rfl
    ·exact h.inr x hx
    ·exact (Jqh hL _).1 hc.1
  ·exact h
theorem S_ok {r : Ji} (hL : Lim r) {a : Ja} (ha : In r a) : ∀ t, QOK r a (S r a t)
 | 0 => ⟨rfl, fun j s hs h0 => by
   have := (List.getElem?_eq_some_iff.1 hs).1
   simp [S] at this
   omega, by simp [S], fun s hs => by simp [S] at hs; subst hs; exact ha⟩
 | t + 1 => visit_ok hL (S_ok hL ha t) _ _
def code (c : Ja) : Nat := ((c.X + 4096) * 8192 + (c.Y + 4096)).toNat
theorem QOK.len {r : Ji} {a : Ja} {Q : List Seen} (h : QOK r a Q) : Q.length ≤ 67108864 := by
 have hd : (Q.map fun s => code s.cell).Nodup := by
  have e : (Q.map fun s => code s.cell) = (Q.map (·.cell)).map code := by rw [List.map_map]; rfl
  rw [e]; try rw [Jb]
  refine List.pairwise_map.2 (List.Pairwise.imp_of_mem (fun {x y} hx hy hne => ?_) h.nodup)
  obtain ⟨s, hs, rfl⟩ := List.mem_map.1 hx
  obtain ⟨u, hu, rfl⟩ := List.mem_map.1 hy
  have p := Jmh (h.inr s hs)
  have q := Jmh (h.inr u hu)
  unfold InR at p q
  intro e
  refine hne (Cell.ext' ?_ ?_)
  ·unfold code at e; omega
  ·unfold code at e; omega
 have h1 := Jp8 67108864 _ hd (fun x hx => by
  obtain ⟨s, hs, rfl⟩ := List.mem_map.1 hx
  have p := Jmh (h.inr s hs)
  unfold InR at p
  unfold code
  omega)
 simpa using h1
end Go.Proofs.Ytemehoioeoohmaa
namespace Go.Proofs.Ytemehoioeoohmaa
open Go Go.Vv Go.Proofs
set_option linter.unusedSimpArgs false
set_option linter.unusedVariables false
set_option linter.unusedSectionVars false
def ends (b : Ja) (Q : List Seen) : Bool := match Q[Q.length - 1]? with | some s => K0 s.cell b | none => false
section
variable {r : Ji} (hL : Lim r) {a b : Ja} (ha : In r a)
include hL ha
end
end Go.Proofs.Ytemehoioeoohmaa
namespace Go.Proofs.Ytemehoioeoohmaa
open Go Go.Vv Go.Proofs
set_option linter.unusedSimpArgs false
set_option linter.unusedVariables false
set_option linter.unusedSectionVars false
def pc (Q : List Seen) (s : Seen) : Ja := ((Q[s.before.toNat]?).map (·.cell)).getD s.cell
def mp (Q : List Seen) : List (Ja × Ja) := Q.map fun s => (s.cell, pc Q s)
theorem Jry (k : Ja) : ∀ (es : List (Ja × Ja)) (i : Nat), (∀ p ∈ es, p.1 ≠ k) → mpos K0 k i es = none
 | [], i, _ => rfl
 | p :: r, i, h => by
  have h1 : K0 k p.1 = false := by rw [← Bool.not_eq_true, Jpk]; exact fun e => h p (by simp) e.symm
  simp only [Jb, mpos, h1, Bool.false_eq_true, if_false]
  exact Jry k r (i + 1) fun p hp => h p (by simp [hp])
theorem J2l (k : Ja) : ∀ (es : List (Ja × Ja)) (i j : Nat) (p : Ja × Ja), es[j]? = some p → p.1 = k → (∀ m p', m < j → es[m]? = some p' → p'.1 ≠ k) → mpos K0 k i es = some (i + j)
 | [], i, j, p, hp, _, _ => by simp at hp
 | x :: r, i, j, p, hp, hk, hb => by
  cases j with
  | zero =>
   simp at hp
   subst hp
   have h1 : K0 k x.1 = true := (Jpk _ _).2 hk.symm
   simp only [Jb, mpos, h1, if_true, Nat.add_zero]
  | succ j =>
   have h1 : K0 k x.1 = false := by rw [← Bool.not_eq_true, Jpk]; exact fun e => hb 0 x (by omega) rfl e.symm
   simp only [Jb, mpos, h1, Bool.false_eq_true, if_false]
   rw [J2l k r (i + 1) j p (by simpa using hp) hk (fun m p' hm hp' => hb (m + 1) p' (by omega) (by simpa using hp'))]
   congr 1; omega
section
variable {r : Ji} {a : Ja} {Q : List Seen} (ok : QOK r a Q)
include ok
theorem mp_pos {j : Nat} {s : Seen} (hj : Q[j]? = some s) : mpos K0 s.cell 0 (mp Q) = some j := by
 have := J2l s.cell (mp Q) 0 j (s.cell, pc Q s) (by unfold mp; rw [List.getElem?_map, hj]; rfl) rfl (fun m p' hm hp' e => by
  unfold mp at hp'
  rw [List.getElem?_map] at hp'
  cases hx : Q[m]? with
  | none => rw [hx] at hp'; cases hp'
  | some x =>
   rw [hx] at hp'
   cases hp'
   have := ok.inj hx hj e
   omega)
 rwa [Nat.zero_add] at this
theorem mp_get {j : Nat} {s : Seen} (hj : Q[j]? = some s) (z : Ja) : mget K0 (mp Q) s.cell z = pc Q s := by
 unfold mget
 rw [mp_pos ok hj]
 simp only
 have : (mp Q)[j]? = some (s.cell, pc Q s) := by unfold mp; rw [List.getElem?_map, hj]; rfl
 rw [this]; try rw [Jb]
theorem Jyc (c : Ja) : mhas K0 (mp Q) c = fnd Q c := by
 unfold mhas
 by_cases h : fnd Q c = true
 ·obtain ⟨s, hs, rfl⟩ := (Jiv Q c).1 h
  obtain ⟨j, hj, rfl⟩ := List.getElem_of_mem hs
  rw [mp_pos ok (List.getElem?_eq_getElem hj), h]
  rfl
 ·rw [Jry]; try rw [Jb]
  ·rw [Bool.not_eq_true] at h; rw [h]; rfl
  ·intro p hp e
   unfold mp at hp
   obtain ⟨s, hs, rfl⟩ := List.mem_map.1 hp
   exact h ((Jiv Q c).2 ⟨s, hs, e⟩)
theorem mp_snoc {i : Nat} {s : Seen} (hi : Q[i]? = some s) {c : Ja} (hf : fnd Q c = false) : mset K0 (mp Q) c s.cell = mp (Q ++ [⟨c, (i : Int)⟩]) := by
 have h1 : mpos K0 c 0 (mp Q) = none := by
  have := Jyc ok c
  rw [hf] at this
  unfold mhas at this
  cases hm : mpos K0 c 0 (mp Q) with
  | none => rfl
  | some j => rw [hm] at this; cases this
 have hil := (List.getElem?_eq_some_iff.1 hi).1
 unfold mset
 rw [h1]; try rw [Jb]
 simp only
 unfold mp
 rw [List.map_append]
 congr 1
 ·refine List.map_congr_left fun x hx => ?_
  obtain ⟨j, hj, rfl⟩ := List.getElem_of_mem hx
  congr 1
  unfold pc
  by_cases h0 : 0 < j
  ·obtain ⟨p, hp, hlt⟩ := ok.back j _ (List.getElem?_eq_getElem hj) h0
   rw [hp, Int.toNat_natCast, List.getElem?_append_left (by omega)]
  ·have : j = 0 := by omega
   subst this
   have hf0 := ok.first
   rw [List.getElem?_eq_getElem hj] at hf0
   have e : Q[0] = ⟨a, -1⟩ := Option.some.inj hf0
   rw [e]; try rw [Jb]
   have : (-1 : Int).toNat = 0 := rfl
   simp only [Jb, this]
   rw [List.getElem?_append_left hj]
 ·simp only [Jb, List.map_cons, List.map_nil, pc, Int.toNat_natCast]
  rw [List.getElem?_append_left hil, hi]
  rfl
end
theorem Jqc {x : FS Ja} (h : 0 < x.l.length) : ∃ y, fsl x 1 (flen x) = some y ∧ y.l = x.l.drop 1 := by
 cases x with
 | nil => simp [FS.l] at h
 | lst l =>
  simp only [Jb, FS.l] at h
  refine ⟨.lst ((l.drop 1).take (flen (.lst l) - 1).toNat), ?_, ?_⟩
  ·have hc : (0:Int) ≤ 1 ∧ (1:Int) ≤ flen (.lst l : FS Ja) ∧ flen (.lst l : FS Ja) ≤ flen (.lst l : FS Ja) := by
    simp only [Jb, flen, FS.l]
    exact ⟨by omega, by omega, by omega⟩
   simp only [Jb, fsl]
   exact if_pos hc
  ·simp only [Jb, FS.l, flen]
   rw [List.take_of_length_le]
   rw [List.length_drop]; omega
section
variable {r : Ji} (hL : Lim r) {a b : Ja} (ha : In r a)
include hL ha
theorem get4 {c : Ja} (hc : InR c) (k : Nat) (hk : k < 4) :
  A4.get (⟨(⟨(iadd .i64 c.X 1), c.Y⟩ : Ja), (⟨(isub .i64 c.X 1), c.Y⟩ : Ja), (⟨c.X, (iadd .i64 c.Y 1)⟩ : Ja), (⟨c.X, (isub .i64 c.Y 1)⟩ : Ja)⟩ : (A4 Ja)) (k : Int) = nbr c k := by
 unfold InR at hc
 rw [Jbb (a := c.X) (by omega) (by omega), Zj (a := c.X) (by omega) (by omega), Jbb (a := c.Y) (by omega) (by omega), Zj (a := c.Y) (by omega) (by omega)]
 have : k = 0 ∨ k = 1 ∨ k = 2 ∨ k = 3 := by omega
 rcases this with rfl | rfl | rfl | rfl <;> rfl
theorem Jvf (i : Nat) (x0 : FS Ja) (s0 : Seen) (hs0 : (S r a (4 * i))[i]? = some s0) (h0 : x0.l = ((S r a (4 * i)).drop (i + 1)).map (·.cell)) :
  ∃ y : List (Ja × Ja) × FS Ja, Ky (j5 r b s0.cell (⟨(⟨(iadd .i64 s0.cell.X 1), s0.cell.Y⟩ : Ja), (⟨(isub .i64 s0.cell.X 1), s0.cell.Y⟩ : Ja), (⟨s0.cell.X, (iadd .i64 s0.cell.Y 1)⟩ : Ja), (⟨s0.cell.X, (isub .i64 s0.cell.Y 1)⟩ : Ja)⟩ : (A4 Ja))) bigN (mp (S r a (4 * i)), x0, 0) = some y ∧
   y.1 = mp (S r a (4 * (i + 1))) ∧ y.2.l = ((S r a (4 * (i + 1))).drop (i + 1)).map (·.cell) := by
 have hin := Jmh ((S_ok hL ha (4 * i)).inr s0 (List.mem_of_getElem? hs0))
 refine Xd (body := j5 r b s0.cell _)
  (fun s => ∃ k : Nat, s.2.2 = k ∧ k ≤ 4 ∧ s.1 = mp (S r a (4 * i + k)) ∧ s.2.1.l = ((S r a (4 * i + k)).drop (i + 1)).map (·.cell)) (fun s => (4 - s.2.2).toNat)
  (fun y => y.1 = mp (S r a (4 * (i + 1))) ∧ y.2.l = ((S r a (4 * (i + 1))).drop (i + 1)).map (·.cell))
  ?_ bigN _ ⟨0, rfl, by omega, rfl, h0⟩ (Xn (by simp only; omega))
 rintro ⟨M, x, k'⟩ ⟨k, hk', hk, hM, hx⟩
 simp only at hk' hM hx
 subst hk'
 have ok := S_ok hL ha (4 * i + k)
 have hlen := ok.len
 have hq : (S r a (4 * i + k))[i]? = some s0 := Jh2 (Jt6 r a (by omega)) hs0
 have hil := (List.getElem?_eq_some_iff.1 hq).1
 have hxl : x.l.length ≤ 67108864 := by rw [hx, List.length_map, List.length_drop]; omega
 by_cases hk4 : k < 4
 ·left
  have c1 : ilt (k : Int) 4 = true := Ye (by omega)
  have c2 : inB (k : Int) 4 = true := by rw [Jsc]; omega
  have g4 := get4 (r := r) hL (a := a) ha hin k hk4
  have hcb := Jsz hL (nbr s0.cell k)
  have hm := Jyc ok (nbr s0.cell k)
  have hfit : fits 16 (flen x + 1) = true := Juo (l := x.l) (by omega) (by omega)
  have hstep : S r a (4 * i + (k + 1)) = Jjh r (S r a (4 * i + k)) i k := by
   have e1 : (4 * i + k) / 4 = i := by omega
   have e2 : (4 * i + k) % 4 = k := by omega
   show Jjh r (S r a (4 * i + k)) ((4 * i + k) / 4) ((4 * i + k) % 4) = _
   rw [e1, e2]
  have hv : Jjh r (S r a (4 * i + k)) i k = if cb r (nbr s0.cell k) = true ∧ fnd (S r a (4 * i + k)) (nbr s0.cell k) = false then S r a (4 * i + k) ++ [⟨nbr s0.cell k, (i : Int)⟩] else S r a (4 * i + k) := by
   unfold Jjh; rw [hq]
  by_cases hft : fnd (S r a (4 * i + k)) (nbr s0.cell k) = true
  ·refine ⟨(M, x, ((k + 1 : Nat) : Int)), ?_, ⟨k + 1, rfl, by omega, ?_, ?_⟩, by simp only; omega⟩
   ·simp only [Jb, j5, c1, c2, if_true, g4, hM, hm, hft, Y4, Zi, Jb7, Bool.false_eq_true, if_false, zf (i := k) (by omega)]
   ·simp only; rw [hstep, hv, if_neg (by rw [hft]; simp)]; exact hM
   ·simp only; rw [hstep, hv, if_neg (by rw [hft]; simp)]; exact hx
  ·rw [Bool.not_eq_true] at hft
   by_cases hcbt : cb r (nbr s0.cell k) = true
   ·refine ⟨(mset K0 M (nbr s0.cell k) s0.cell, Y0 x (nbr s0.cell k), ((k + 1 : Nat) : Int)), ?_, ⟨k + 1, rfl, by omega, ?_, ?_⟩, by simp only; omega⟩
    ·simp only [Jb, j5, c1, c2, if_true, g4, hM, hm, hft, Zn, hcb, hcbt, Yp, Option.getD_some, Ja3, hfit, zf (i := k) (by omega)]
    ·simp only; rw [hstep, hv, if_pos ⟨hcbt, hft⟩, hM, mp_snoc ok hq hft]
    ·simp only [Jb, Jap]; rw [hstep, hv, if_pos ⟨hcbt, hft⟩, hx, List.drop_append_of_le_length (by omega), List.map_append]; rfl
   ·rw [Bool.not_eq_true] at hcbt
    refine ⟨(M, x, ((k + 1 : Nat) : Int)), ?_, ⟨k + 1, rfl, by omega, ?_, ?_⟩, by simp only; omega⟩
    ·simp only [Jb, j5, c1, c2, if_true, g4, hM, hm, hft, Zn, hcb, hcbt, Yp, Option.getD_some, Jd6, Bool.false_eq_true, if_false, zf (i := k) (by omega)]
    ·simp only; rw [hstep, hv, if_neg (by rw [hcbt]; simp)]; exact hM
    ·simp only; rw [hstep, hv, if_neg (by rw [hcbt]; simp)]; exact hx
 ·right
  have : k = 4 := by omega
  subst this
  have c1 : ilt ((4 : Nat) : Int) 4 = false := Yf (by omega)
  refine ⟨(M, x), ?_, hM, hx⟩
  simp only [Jb, j5, c1, Bool.false_eq_true, if_false]
theorem Jsu : ∃ i : Nat, Jd5 r a b = some (mp (S r a (4 * i))) ∧ i ≤ (S r a (4 * i)).length ∧ ((S r a (4 * i)).length ≤ i ∨ ∃ s, (S r a (4 * i))[i]? = some s ∧ s.cell = b) := by
 obtain ⟨y, e, i, rfl, h1, h2⟩ := Xd (body := Jax r b)
  (fun s => ∃ i : Nat, s.1 = mp (S r a (4 * i)) ∧ s.2.l = ((S r a (4 * i)).drop i).map (·.cell) ∧ i ≤ (S r a (4 * i)).length) (fun s => 67108866 - (s.1.length - s.2.l.length))
  (fun y => ∃ i : Nat, y = mp (S r a (4 * i)) ∧ i ≤ (S r a (4 * i)).length ∧ ((S r a (4 * i)).length ≤ i ∨ ∃ s, (S r a (4 * i))[i]? = some s ∧ s.cell = b))
  (by
   rintro ⟨M, x⟩ ⟨i, hM, hx, hi⟩
   simp only at hM hx
   have ok := S_ok hL ha (4 * i)
   have hlen := ok.len
   have hxl : x.l.length = (S r a (4 * i)).length - i := by rw [hx, List.length_map, List.length_drop]
   have hMl : M.length = (S r a (4 * i)).length := by rw [hM]; simp [mp]
   by_cases hlt : i < (S r a (4 * i)).length
   ·have c1 : igt (flen x) 0 = true := Jea (by rw [Js]; omega)
    have hs := List.getElem?_eq_getElem hlt
    generalize hs0 : (S r a (4 * i))[i] = s0 at hs
    have g0 : fget x 0 = some s0.cell := fget_int (by omega) (by
     rw [hx]; try rw [Jb]
     simp only [Jb, Int.toNat_zero, List.getElem?_map, List.getElem?_drop, Nat.add_zero, hs]
     rfl)
    obtain ⟨y, ey, hy⟩ := Jqc (x := x) (by omega)
    by_cases hb : s0.cell = b
    ·right
     refine ⟨M, ?_, i, hM, hi, .inr ⟨s0, hs, hb⟩⟩
     have : K0 s0.cell b = true := (Jpk _ _).2 hb
     simp only [Jb, Jax, c1, if_true, g0, ey, q_eq, this]
    ·left
     have hq : K0 s0.cell b = false := by rw [← Bool.not_eq_true, Jpk]; exact hb
     obtain ⟨⟨M', z⟩, ez, h1, h2⟩ := Jvf hL ha (b := b) i y s0 hs (by rw [hy, hx, ← List.map_drop, List.drop_drop])
     simp only at h1 h2
     have hle : i + 1 ≤ (S r a (4 * (i + 1))).length := by
      have := (Jt6 r a (show 4 * i ≤ 4 * (i + 1) by omega)).length_le
      omega
     have ok' := S_ok hL ha (4 * (i + 1))
     have hlen' := ok'.len
     refine ⟨(M', z), ?_, ⟨i + 1, h1, h2, hle⟩, ?_⟩
     ·simp only [Jb, Jax, c1, if_true, g0, ey, q_eq, hq, Bool.false_eq_true, if_false, hM, ez]
     ·simp only
      rw [h1, h2]
      simp only [Jb, mp, List.length_map, List.length_drop]
      omega
   ·right
    have c1 : igt (flen x) 0 = false := Jgc (by rw [Js]; omega)
    refine ⟨M, ?_, i, hM, hi, .inl (by omega)⟩
    simp only [Jb, Jax, c1, Bool.false_eq_true, if_false])
  bigN (mset K0 [] a a, flit [a]) ⟨0, rfl, rfl, by simp [S]⟩ (Xn (by simp only; omega))
 refine ⟨i, ?_, h1, h2⟩
 unfold Jd5
 rw [e]; try rw [Jb]; try simp only [Jb]
end
end Go.Proofs.Ytemehoioeoohmaa
namespace Go.Proofs.Ytemehoioeoohmaa
open Go Go.Vv Go.Proofs
set_option linter.unusedSimpArgs false
set_option linter.unusedVariables false
set_option linter.unusedSectionVars false
inductive Ch (Q : List Seen) : Nat → List Ja → Prop
 | base {s : Seen} : Q[0]? = some s → Ch Q 0 [s.cell]
 | step {j p : Nat} {s : Seen} {l : List Ja} : Q[j]? = some s → 0 < j → s.before = p → Ch Q p l → Ch Q j (s.cell :: l)
theorem Ch.pre {Q Q' : List Seen} (h : Q <+: Q') {j : Nat} {l : List Ja} (hc : Ch Q j l) : Ch Q' j l := by
 induction hc with
 | base hs => exact .base (Jh2 h hs)
 | step hs h0 hp _ ih => exact .step (Jh2 h hs) h0 hp ih
theorem Ch.head {Q : List Seen} {j : Nat} {l : List Ja} (hc : Ch Q j l) : ∃ s t, Q[j]? = some s ∧ l = s.cell :: t := by
 cases hc with
 | base hs => exact ⟨_, _, hs, rfl⟩
 | step hs _ _ _ => exact ⟨_, _, hs, rfl⟩
section
variable {r : Ji} {a : Ja} {Q : List Seen} (ok : QOK r a Q)
include ok
theorem Ch.ex : ∀ (n j : Nat), j ≤ n → j < Q.length → ∃ l, Ch Q j l ∧ l.length ≤ j + 1
 | 0, j, hj, hl => by
  have : j = 0 := by omega
  subst this
  exact ⟨_, .base ok.first, by simp⟩
 | n + 1, j, hj, hl => by
  by_cases h0 : j = 0
  ·subst h0; exact ⟨_, .base ok.first, by simp⟩
  ·obtain ⟨p, hp, hpj⟩ := ok.back j _ (List.getElem?_eq_getElem hl) (by omega)
   obtain ⟨l, hc, hll⟩ := Ch.ex n p (by omega) (by omega)
   exact ⟨_, .step (List.getElem?_eq_getElem hl) (by omega) hp hc, by simp only [Jb, List.length_cons]; omega⟩
theorem Jzr {b : Ja} {J : Nat} {full : List Ja} {s : Seen} (hs : Q[J]? = some s) (hb : s.cell = b) (hf : Ch Q J full) (hlen : full.length ≤ 67108865) :
  ∃ y, Ky (Jbs a (mp Q)) bigN ((flit ([b] : List Ja)), b) = some y ∧ y.l = full := by
 refine Xd (body := Jbs a (mp Q)) (fun st => ∃ (j : Nat) (l : List Ja), Ch Q j (st.2 :: l) ∧ st.1.l ++ l = full) (fun st => full.length - st.1.l.length) (fun y => y.l = full) ?_ bigN _ ?_ (Xn (by simp only; omega))
 ·rintro ⟨x, c⟩ ⟨j, l, hc, he⟩
  simp only at hc he
  have hlx : x.l.length + l.length = full.length := by rw [← he, List.length_append]
  cases hc with
  | base h0 =>
   right
   rename_i s'
   refine ⟨x, ?_, by simpa using he⟩
   have e : K0 s'.cell a = true := (Jpk _ _).2 (by rw [ok.first] at h0; cases h0; rfl)
   simp only [Jb, Jbs, q_eq, e, Y4, Bool.false_eq_true, if_false]
  | step h0 hj hp hc =>
   rename_i p s'
   left
   obtain ⟨sp, t, hsp, rfl⟩ := hc.head
   have e : K0 s'.cell a = false := by
    rw [← Bool.not_eq_true, Jpk]
    intro e
    have := ok.inj h0 ok.first e
    omega
   have hm : mget K0 (mp Q) s'.cell (⟨0, 0⟩ : Ja) = sp.cell := by
    rw [mp_get ok h0]
    unfold pc
    rw [hp, Int.toNat_natCast, hsp]
    rfl
   have hfit : fits 16 (flen x + 1) = true := Juo (l := x.l) (by omega) (by omega)
   refine ⟨(Y0 x sp.cell, sp.cell), ?_, ⟨p, t, hc, ?_⟩, ?_⟩
   ·simp only [Jb, Jbs, q_eq, e, Zn, if_true, hm, hfit]
   ·simp only [Jb, Jap]
    rw [← he, List.append_assoc]
    rfl
   ·simp only [Jb, Jap, List.length_append, List.length_cons, List.length_nil] at hlx ⊢
    omega
 ·obtain ⟨s2, t, hs2, rfl⟩ := hf.head
  rw [hs] at hs2
  cases hs2
  subst hb
  exact ⟨J, t, hf, rfl⟩
end
theorem turn_ok (x : FS Ja) (hlen : x.l.length ≤ 67108865) : ∃ y, Xe x = some y ∧ y.l = x.l.reverse := by
 have h := Xd (body := Qf) (fun st => ∃ i : Nat, st.2.1 = i ∧ st.2.2 = (x.l.length : Int) - 1 - i ∧ 2 * i ≤ x.l.length + 1 ∧ st.1.l.length = x.l.length ∧
   ∀ k, k < x.l.length → st.1.l[k]? = if k < i ∨ x.l.length ≤ k + i then x.l[x.l.length - 1 - k]? else x.l[k]?) (fun st => (x.l.length - st.2.1).toNat) (fun y => y.l = x.l.reverse) ?_ bigN (x, 0, (isub .i64 (flen x) 1)) ?_ (Xn (by simp only; omega))
 ·obtain ⟨y, e, hy⟩ := h
  refine ⟨y, ?_, hy⟩
  unfold Xe
  rw [e]; try rw [Jb]; try simp only [Jb]
 ·rintro ⟨o, c, d⟩ ⟨i, hc, hd, hi, hl, ho⟩
  simp only at hc hd hl ho
  subst hc hd
  by_cases hlt : 2 * i + 1 < x.l.length
  ·left
   have c1 : ilt (i : Int) ((x.l.length : Int) - 1 - i) = true := Ye (by omega)
   have ed : (x.l.length : Int) - 1 - i = ((x.l.length - 1 - i : Nat) : Int) := by omega
   rw [ed] at c1 ⊢
   have g1 := Qb (x := o) (i := x.l.length - 1 - i) (by omega)
   have g2 := Qb (x := o) (i := i) (by omega)
   have g3 := Qb (x := fset o (i : Int) (o.l[x.l.length - 1 - i]'(by omega))) (i := x.l.length - 1 - i) (by rw [Jic, List.length_set]; omega)
   refine ⟨(fset (fset o (i : Int) (o.l[x.l.length - 1 - i]'(by omega))) ((x.l.length - 1 - i : Nat) : Int) (o.l[i]'(by omega)), ((i + 1 : Nat) : Int), (x.l.length : Int) - 1 - ((i + 1 : Nat) : Int)), ?_, ⟨i + 1, rfl, rfl, by omega, ?_, ?_⟩, by simp only; omega⟩
   ·have e3 : isub .i64 ((x.l.length - 1 - i : Nat) : Int) 1 = (x.l.length : Int) - 1 - ((i + 1 : Nat) : Int) := by rw [Zj (by omega) (by omega)]; omega
    simp only [Jb, Qf, c1, if_true, g1, g2, g3, zf (i := i) (by omega), e3]
   ·simp only [Jb, Jic, List.length_set]; exact hl
   ·intro k hk
    simp only [Jb, Jic, Int.toNat_natCast]
    rw [List.getElem?_set, List.getElem?_set, List.length_set]
    have e1 : o.l[i]'(by omega) = x.l[i]'(by omega) := by
     have h := ho i (by omega)
     rw [if_neg (by omega), List.getElem?_eq_getElem (by omega), List.getElem?_eq_getElem (by omega)] at h
     exact Option.some.inj h
    have e2 : o.l[x.l.length - 1 - i]'(by omega) = x.l[x.l.length - 1 - i]'(by omega) := by
     have h := ho (x.l.length - 1 - i) (by omega)
     rw [if_neg (by omega), List.getElem?_eq_getElem (by omega), List.getElem?_eq_getElem (by omega)] at h
     exact Option.some.inj h
    by_cases k1 : x.l.length - 1 - i = k
    ·rw [if_pos k1, if_pos (by omega), if_pos (by omega), e1]
     have : x.l.length - 1 - k = i := by omega
     rw [this, List.getElem?_eq_getElem (by omega)]
    ·rw [if_neg k1]
     by_cases k2 : i = k
     ·rw [if_pos k2, if_pos (by omega), if_pos (by omega), e2]
      subst k2
      rw [List.getElem?_eq_getElem (by omega)]
     ·rw [if_neg k2, ho k hk]
      by_cases k3 : k < i ∨ x.l.length ≤ k + i
      ·rw [if_pos k3, if_pos (by omega)]
      ·rw [if_neg k3, if_neg (by omega)]
  ·right
   have c1 : ilt (i : Int) ((x.l.length : Int) - 1 - i) = false := Yf (by omega)
   refine ⟨o, ?_, ?_⟩
   ·simp only [Jb, Qf, c1, Bool.false_eq_true, if_false]
   ·apply List.ext_getElem?
    intro k
    by_cases hk : k < x.l.length
    ·rw [ho k hk, List.getElem?_reverse hk]
     by_cases k3 : k < i ∨ x.l.length ≤ k + i
     ·rw [if_pos k3]
     ·rw [if_neg k3]
      have : x.l.length - 1 - k = k := by omega
      rw [this]; try rw [Jb]
    ·rw [List.getElem?_eq_none (by omega), List.getElem?_eq_none (by rw [List.length_reverse]; omega)]
 ·refine ⟨0, rfl, ?_, by omega, rfl, fun k hk => ?_⟩
  ·simp only
   rw [Js, Zj (by omega) (by omega)]
   omega
  ·rw [if_neg (by omega)]
end Go.Proofs.Ytemehoioeoohmaa
namespace Go.Proofs.Ytemehoioeoohmaa
open Go Go.Vv Go.Proofs
set_option linter.unusedSimpArgs false
set_option linter.unusedVariables false
set_option linter.unusedSectionVars false
theorem Jss (r : Ji) (a : Ja) {n : Nat} (h : (S r a (4 * n)).length ≤ n) : ∀ t, 4 * n ≤ t → S r a t = S r a (4 * n) := by
 intro t
 induction t with
 | zero =>
  intro ht; have : 4 * n = 0 := by omega
  rw [this]
 | succ t ih =>
  intro ht
  by_cases e : 4 * n = t + 1
  ·rw [e]; try rw [Jb]
  ·have h1 := ih (by omega)
   show Jjh r (S r a t) (t / 4) (t % 4) = _
   rw [h1]; try rw [Jb]
   unfold Jjh
   rw [List.getElem?_eq_none (by omega)]
section
variable {r : Ji} (hL : Lim r) {a b : Ja}
include hL
end
end Go.Proofs.Ytemehoioeoohmaa
namespace Go.Proofs.Ytemehoioeoohmaa
open Go Go.Vv Go.Proofs
set_option linter.unusedSimpArgs false
set_option linter.unusedVariables false
set_option linter.unusedSectionVars false
theorem count_ok (r : Ji) (hL : Lim r) : ∃ v, Z7 r = some v := by
 obtain ⟨b, e, -⟩ := Jqy r hL
 unfold Z7
 rw [e]; try rw [Jb]; try simp only [Jb]
 cases b with
 | false => exact ⟨_, rfl⟩
 | true =>
  obtain ⟨v, ev, -⟩ := Xd (body := Zy r) (fun s => 0 ≤ s.2 ∧ s.2 ≤ r.Rows.l.length) (fun s => (r.Rows.l.length - s.2).toNat) (fun _ => True)
   (by
    rintro ⟨x, i⟩ ⟨h0, h1⟩
    simp only at h0 h1
    obtain ⟨n, rfl⟩ := Int.eq_ofNat_of_zero_le h0
    have hl := hL.1
    by_cases hlt : n < r.Rows.l.length
    ·left
     have c1 : ilt (n : Int) (flen r.Rows) = true := Ye (by rw [Js]; omega)
     have g1 := Qb hlt
     have hr := hL.2 _ (List.getElem_mem hlt)
     obtain ⟨w, ew, -⟩ := Xd (body := Zq r (n : Int)) (fun s => 0 ≤ s.2 ∧ s.2 ≤ (r.Rows.l[n]).Runs.l.length) (fun s => ((r.Rows.l[n]).Runs.l.length - s.2).toNat) (fun _ => True)
      (by
       rintro ⟨y, j⟩ ⟨k0, k1⟩
       simp only at k0 k1
       obtain ⟨m, rfl⟩ := Int.eq_ofNat_of_zero_le k0
       by_cases hlm : m < (r.Rows.l[n]).Runs.l.length
       ·left
        have c2 : ilt (m : Int) (flen (r.Rows.l[n]).Runs) = true := Ye (by rw [Js]; omega)
        have g2 := Qb hlm
        exact ⟨_, by simp only [Jb, Zq, g1, c2, if_true, g2, zf (i := m) (by omega)]; rfl, ⟨by simp only; omega, by simp only; omega⟩, by simp only; omega⟩
       ·right
        have c2 : ilt (m : Int) (flen (r.Rows.l[n]).Runs) = false := Yf (by rw [Js]; omega)
        exact ⟨_, by simp only [Jb, Zq, g1, c2, Bool.false_eq_true, if_false]; rfl, trivial⟩)
      bigN (x, 0) ⟨by simp only; omega, by simp only; omega⟩ (Xn (by simp only; omega))
     exact ⟨(w, ((n + 1 : Nat) : Int)), by simp only [Jb, Zy, c1, if_true, ew, zf (i := n) (by omega)], ⟨by simp only; omega, by simp only; omega⟩, by simp only; omega⟩
    ·right
     have c1 : ilt (n : Int) (flen r.Rows) = false := Yf (by rw [Js]; omega)
     exact ⟨_, by simp only [Jb, Zy, c1, Bool.false_eq_true, if_false]; rfl, trivial⟩)
   bigN (0, 0) ⟨by simp only; omega, by simp only; omega⟩ (Xn (by have := hL.1; simp only; omega))
  refine ⟨v, ?_⟩
  simp only [Jb, Y4, Bool.false_eq_true, if_false, ev]
def Lim4 (r : Ji) : Prop := r.Rows.l.length ≤ 40 ∧ ∀ w ∈ r.Rows.l, w.Runs.l.length ≤ 40
theorem Lim4.lim {r : Ji} (h : Lim4 r) : Lim r := ⟨by have := h.1; omega, fun w hw => by have := h.2 w hw; omega⟩
end Go.Proofs.Ytemehoioeoohmaa
namespace Go.Proofs.Ytemehoioeoohmaa
open Go Go.Vv Go.Proofs
set_option linter.unusedSimpArgs false
set_option linter.unusedVariables false
set_option linter.unusedSectionVars false
def Adj (c d : Ja) : Prop := ∃ k, k < 4 ∧ d = nbr c k
theorem Adj.symm {c d : Ja} (h : Adj c d) : Adj d c := by
 obtain ⟨k, hk, rfl⟩ := h
 have : k = 0 ∨ k = 1 ∨ k = 2 ∨ k = 3 := by omega
 rcases this with rfl | rfl | rfl | rfl
 ·exact ⟨1, by omega, Cell.ext' (by simp only [Jb, nbr]; omega) rfl⟩
 ·exact ⟨0, by omega, Cell.ext' (by simp only [Jb, nbr]; omega) rfl⟩
 ·exact ⟨3, by omega, Cell.ext' rfl (by simp only [Jb, nbr]; omega)⟩
 ·exact ⟨2, by omega, Cell.ext' rfl (by simp only [Jb, nbr]; omega)⟩
inductive Wk (r : Ji) (a : Ja) : Nat → Ja → Prop
 | here : In r a → Wk r a 0 a
 | step {n : Nat} {c d : Ja} : Wk r a n c → In r d → Adj c d → Wk r a (n + 1) d
theorem Wk.inr {r : Ji} {a c : Ja} {n : Nat} (h : Wk r a n c) : In r c := by
 cases h with
 | here h => exact h
 | step _ h _ => exact h
theorem Wk.ina {r : Ji} {a c : Ja} {n : Nat} (h : Wk r a n c) : In r a := by
 induction h with
 | here h => exact h
 | step _ _ _ ih => exact ih
theorem Wk.front {r : Ji} {a b c : Ja} {n : Nat} (h : Wk r b n c) (ha : In r a) (hab : Adj a b) : Wk r a (n + 1) c := by
 induction h with
 | here h => exact .step (.here ha) h hab
 | step _ h2 h3 ih => exact .step ih h2 h3
theorem Wk.symm {r : Ji} {a c : Ja} {n : Nat} (h : Wk r a n c) : Wk r c n a := by
 induction h with
 | here h => exact .here h
 | step h1 h2 h3 ih => exact ih.front h2 h3.symm
structure QB (r : Ji) (t : Nat) (Q : List Seen) : Prop where
 low : ∀ s ∈ Q, 4 * s.before < t
 mono : ∀ (j k : Nat) (x y : Seen), j ≤ k → Q[j]? = some x → Q[k]? = some y → x.before ≤ y.before
 adj : ∀ (j p : Nat) (s : Seen), Q[j]? = some s → s.before = p → ∃ u, Q[p]? = some u ∧ Adj u.cell s.cell
theorem S_qb (r : Ji) (a : Ja) : ∀ t, QB r t (S r a t)
 | 0 => ⟨fun s hs => by simp [S] at hs; subst hs; simp, fun j k x y hjk hx hy => by
   have h1 := (List.getElem?_eq_some_iff.1 hx).1
   have h2 := (List.getElem?_eq_some_iff.1 hy).1
   simp [S] at h1 h2
   subst h1 h2
   rw [hx] at hy
   cases hy
   omega, fun j p s hs hp => by
   have h1 := (List.getElem?_eq_some_iff.1 hs).1
   simp [S] at h1
   subst h1
   simp [S] at hs
   subst hs
   simp at hp⟩
 | t + 1 => by
  have ih := S_qb r a t
  show QB r (t + 1) (Jjh r (S r a t) (t / 4) (t % 4))
  have hsame : QB r (t + 1) (S r a t) := ⟨fun s hs => by have := ih.low s hs; omega, ih.mono, ih.adj⟩
  unfold Jjh
  split
  ·exact hsame
  ·rename_i s hs
   split
   ·rename_i hc
    have hi := (List.getElem?_eq_some_iff.1 hs).1
    have hlast : ∀ (j : Nat) (x : Seen), (S r a t ++ [⟨nbr s.cell (t % 4), ((t / 4 : Nat) : Int)⟩])[j]? = some x → (S r a t)[j]? = some x ∨ (j = (S r a t).length ∧ x = ⟨nbr s.cell (t % 4), ((t / 4 : Nat) : Int)⟩) := by
     intro j x hx
     by_cases hj : j < (S r a t).length
     ·rw [List.getElem?_append_left hj] at hx; exact .inl hx
     ·rw [List.getElem?_append_right (by omega)] at hx
      have h1 := (List.getElem?_eq_some_iff.1 hx).1
      simp at h1
      have : j - (S r a t).length = 0 := by omega
      rw [this] at hx
      simp at hx
      exact .inr ⟨by omega, hx.symm⟩
    refine ⟨fun x hx => ?_, fun j k x y hjk hx hy => ?_, fun j p x hx hp => ?_⟩
    ·rw [List.mem_append, List.mem_singleton] at hx
     rcases hx with hx | rfl
     ·have := ih.low x hx; omega
     ·simp only; omega
    ·rcases hlast j x hx with hx | ⟨hj, rfl⟩
     ·rcases hlast k y hy with hy | ⟨hk, rfl⟩
      ·exact ih.mono j k x y hjk hx hy
      ·have := ih.low x (List.mem_of_getElem? hx)
       simp only; omega
     ·rcases hlast k y hy with hy | ⟨hk, rfl⟩
      ·have := (List.getElem?_eq_some_iff.1 hy).1
       omega
      ·exact Int.le_refl _
    ·rcases hlast j x hx with hx | ⟨hj, rfl⟩
     ·obtain ⟨u, hu, ha⟩ := ih.adj j p x hx hp
      exact ⟨u, Jh2 (List.prefix_append _ _) hu, ha⟩
     ·simp only at hp
      have : t / 4 = p := Int.ofNat_inj.1 hp
      subst this
      exact ⟨s, Jh2 (List.prefix_append _ _) hs, t % 4, by omega, rfl⟩
   ·exact hsame
def Qc (r : Ji) (a : Ja) : List Seen := S r a (4 * 67108864)
theorem Ch.le {r : Ji} {a : Ja} {Q : List Seen} {t : Nat} (qb : QB r t Q) {j : Nat} {l : List Ja} (h : Ch Q j l) : ∀ {k : Nat} {m : List Ja}, Ch Q k m → j ≤ k → l.length ≤ m.length := by
 induction h with
 | base hs =>
  intro k m h2 _
  obtain ⟨_, _, _, rfl⟩ := h2.head
  simp
 | step hs h0 hp hc ih =>
  intro k m h2 hjk
  cases h2 with
  | base _ => omega
  | step hs2 h02 hp2 hc2 =>
   have := qb.mono _ _ _ _ hjk hs hs2
   have := ih hc2 (by omega)
   simp only [Jb, List.length_cons]
   omega
section
variable {r : Ji} (hL : Lim r) {a b : Ja} (ha : In r a)
include hL ha
theorem J5g : QOK r a (Qc r a) := S_ok hL ha _
theorem Qc_qb : QB r (4 * 67108864) (Qc r a) := S_qb r a _
theorem Qc_len : (Qc r a).length ≤ 67108864 := (J5g hL ha).len
theorem S_Qc (t : Nat) : S r a t <+: Qc r a := by
 by_cases h : t ≤ 4 * 67108864
 ·exact Jt6 r a h
 ·have := Jss r a (n := 67108864) (Qc_len hL ha) t (by omega)
  rw [this]; try rw [Jb]
  exact List.prefix_refl _
theorem J0t {i : Nat} {s : Seen} (hs : (Qc r a)[i]? = some s) {d : Ja} (hd : In r d) (had : Adj s.cell d) : ∃ (m : Nat) (u : Seen), (Qc r a)[m]? = some u ∧ u.cell = d ∧ u.before ≤ i := by
 obtain ⟨k, hk, rfl⟩ := had
 have hi := (List.getElem?_eq_some_iff.1 hs).1
 have hl := Qc_len hL ha
 have hlen : i < (S r a (4 * i)).length := by
  by_cases h : i < (S r a (4 * i)).length
  ·exact h
  ·have := Jss r a (n := i) (by omega) (4 * 67108864) (by omega)
   have e : (Qc r a).length = (S r a (4 * i)).length := by unfold Qc; rw [this]
   omega
 have hpre := S_Qc hL ha (4 * i + k)
 have hm := Jt6 r a (t := 4 * i) (u := 4 * i + k) (by omega)
 have hsi : (S r a (4 * i + k))[i]? = some s := by
  have h1 := Jh2 hm (List.getElem?_eq_getElem hlen)
  have h2 := Jh2 hpre h1
  rw [hs] at h2
  rw [h1, ← h2]
 have e : S r a (4 * i + k + 1) = Jjh r (S r a (4 * i + k)) i k := by
  show Jjh r (S r a (4 * i + k)) ((4 * i + k) / 4) ((4 * i + k) % 4) = _
  have e1 : (4 * i + k) / 4 = i := by omega
  have e2 : (4 * i + k) % 4 = k := by omega
  rw [e1, e2]
 have hf : fnd (S r a (4 * i + k + 1)) (nbr s.cell k) = true := by
  rw [e]; try rw [Jb]
  unfold Jjh
  rw [hsi]; try rw [Jb]
  simp only
  split
  ·exact (Jiv _ _).2 ⟨_, List.mem_append_right _ (List.mem_singleton.2 rfl), rfl⟩
  ·rename_i hn
   by_cases hf : fnd (S r a (4 * i + k)) (nbr s.cell k) = true
   ·exact hf
   ·exact absurd ⟨(Jqh hL _).2 hd, by simpa using hf⟩ hn
 obtain ⟨u, hu, hc⟩ := (Jiv _ _).1 hf
 obtain ⟨m, hm2, rfl⟩ := List.getElem_of_mem hu
 have hlow := (S_qb r a (4 * i + k + 1)).low _ hu
 exact ⟨m, _, Jh2 (S_Qc hL ha _) (List.getElem?_eq_getElem hm2), hc, by omega⟩
theorem Qc_short {n : Nat} {c : Ja} (h : Wk r a n c) : ∃ (m : Nat) (u : Seen) (l : List Ja), (Qc r a)[m]? = some u ∧ u.cell = c ∧ Ch (Qc r a) m l ∧ l.length ≤ n + 1 := by
 induction h with
 | here h => exact ⟨0, _, _, (J5g hL ha).first, rfl, .base (J5g hL ha).first, by simp⟩
 | step h1 h2 h3 ih =>
  obtain ⟨m, u, l, hu, rfl, hc, hl⟩ := ih
  obtain ⟨m', u', hu', hc', hb⟩ := J0t hL ha hu h2 h3
  have hm' := (List.getElem?_eq_some_iff.1 hu').1
  obtain ⟨l', hch, -⟩ := Ch.ex (J5g hL ha) _ _ (Nat.le_refl _) hm'
  refine ⟨m', u', l', hu', hc', hch, ?_⟩
  cases hch with
  | base _ => simp
  | step hs h0 hp hc2 =>
   rw [hu'] at hs
   cases hs
   have := Ch.le (r := r) (a := a) (Qc_qb hL ha) hc2 hc (by omega)
   simp only [Jb, List.length_cons]
   omega
end
end Go.Proofs.Ytemehoioeoohmaa
namespace Go.Proofs.Ytemehoioeoohmaa
open Go Go.Vv Go.Proofs
set_option linter.unusedSimpArgs false
set_option linter.unusedVariables false
set_option linter.unusedSectionVars false
section
variable {r : Ji} (hL : Lim r) {a b : Ja}
include hL
theorem J0h : ∃ x o, Jdm r a b = some (x, o) ∧ ((o = false ∧ x.l = [] ∧ ∀ n, ¬ Wk r a n b) ∨ (o = true ∧ In r a ∧ ∃ m u full, (Qc r a)[m]? = some u ∧ u.cell = b ∧ Ch (Qc r a) m full ∧ full.length ≤ 67108865 ∧ x.l = full.reverse)) := by
 unfold Jdm
 rw [Jsz hL a, Jsz hL b]; try simp only [Jb]
 by_cases hca : cb r a = true
 case neg =>
  refine ⟨.nil, false, ?_, .inl ⟨rfl, rfl, fun n h => hca ((Jqh hL a).2 h.ina)⟩⟩
  rw [Bool.not_eq_true] at hca
  simp [hca, gOpt, bnot, bor]
 by_cases hcb : cb r b = true
 case neg =>
  refine ⟨.nil, false, ?_, .inl ⟨rfl, rfl, fun n h => hcb ((Jqh hL b).2 h.inr)⟩⟩
  rw [Bool.not_eq_true] at hcb
  simp [hca, hcb, gOpt, bnot, bor]
 have ha := (Jqh hL a).1 hca
 have c0 : bor false false = false := rfl
 obtain ⟨i, ep, hp1, hp2⟩ := Jsu hL ha (b := b)
 have okp := S_ok hL ha (4 * i)
 simp only [Jb, hca, hcb, Y4, Zn, Yp, Option.getD_some, c0, Bool.false_eq_true, if_false, ep, Jyc okp]
 by_cases hf : fnd (S r a (4 * i)) b = true
 ·obtain ⟨s, hs, hb⟩ := (Jiv _ _).1 hf
  obtain ⟨J, hJ, rfl⟩ := List.getElem_of_mem hs
  obtain ⟨full, hch, hfl⟩ := Ch.ex okp _ _ (Nat.le_refl _) hJ
  have hlenT := okp.len
  obtain ⟨x, ex, hx⟩ := Jzr okp (List.getElem?_eq_getElem hJ) hb hch (by omega)
  obtain ⟨w, ew, hw⟩ := turn_ok x (by rw [hx]; omega)
  have e2 : ieq (flen w) (flen x) = true := by rw [Jif, Js, Js, hw, List.length_reverse]
  have hpre := S_Qc hL ha (4 * i)
  refine ⟨flst w, true, ?_, .inr ⟨rfl, ha, J, _, full, Jh2 hpre (List.getElem?_eq_getElem hJ), hb, hch.pre hpre, by omega, by rw [Jnt, hw, hx]⟩⟩
  simp only [Jb, hf, Y4, Bool.false_eq_true, if_false, ex, ew, e2, if_true]
 ·refine ⟨.nil, false, ?_, .inl ⟨rfl, rfl, fun n h => ?_⟩⟩
  ·rw [Bool.not_eq_true] at hf
   simp only [Jb, hf, Zn, if_true]
  ·have hi : (S r a (4 * i)).length ≤ i := by
    rcases hp2 with h | ⟨s, hs, e⟩
    ·exact h
    ·exact absurd ((Jiv (S r a (4 * i)) b).2 ⟨s, List.mem_of_getElem? hs, e⟩) hf
   obtain ⟨m, u, l, hu, hc, -, -⟩ := Qc_short hL ha h
   have hlt : Qc r a = S r a (4 * i) := by
    by_cases h2 : 4 * i ≤ 4 * 67108864
    ·exact Jss r a hi _ h2
    ·have h3 := okp.len
     omega
   rw [hlt] at hu
   exact hf ((Jiv _ _).2 ⟨u, List.mem_of_getElem? hu, hc⟩)
end
end Go.Proofs.Ytemehoioeoohmaa
namespace Go.Proofs.Ytemehoioeoohmaa
open Go Go.Vv Go.Proofs
set_option linter.unusedSimpArgs false
set_option linter.unusedVariables false
theorem ok_iff (c : Ja) : Jb9 c = true ↔ InR c := by
 simp only [Jb, Jb9, Jbl, Jbc, jv, InR]; omega
def dist (a b : Ja) : Nat := (a.X - b.X).natAbs + (a.Y - b.Y).natAbs
def nxt (b c : Ja) : Ja :=
 if c.X < b.X then ⟨c.X + 1, c.Y⟩ else if b.X < c.X then ⟨c.X - 1, c.Y⟩ else if c.Y < b.Y then ⟨c.X, c.Y + 1⟩ else ⟨c.X, c.Y - 1⟩
def Jhz (b : Ja) : Nat → Ja → List Ja
 | 0, _ => []
 | n + 1, c => nxt b c :: Jhz b n (nxt b c)
theorem Jis (b : Ja) : ∀ (n : Nat) (c : Ja), (Jhz b n c).length = n
 | 0, _ => rfl
 | n + 1, c => by rw [Jhz, List.length_cons, Jis b n]
theorem J50 {b c : Ja} (hb : InR b) (hc : InR c) (h : 0 < dist c b) : InR (nxt b c) ∧ dist (nxt b c) b + 1 = dist c b := by
 unfold InR dist nxt at *
 split
 ·exact ⟨by simp only; omega, by simp only; omega⟩
 ·split
  ·exact ⟨by simp only; omega, by simp only; omega⟩
  ·split
   ·exact ⟨by simp only; omega, by simp only; omega⟩
   ·exact ⟨by simp only; omega, by simp only; omega⟩
theorem Jec {a b : Ja} (ha : InR a) (hb : InR b) : dist a b ≤ 16384 := by
 unfold InR dist at *; omega
theorem Js9 {a b : Ja} (ha : InR a) (hb : InR b) : Jc0 a b = some (.lst (a :: Jhz b (dist a b) a)) := by
 have h := Xd (body := Jat b) (fun s => InR s.1 ∧ s.2.l ++ Jhz b (dist s.1 b) s.1 = a :: Jhz b (dist a b) a) (fun s => dist s.1 b) (fun r => r.l = a :: Jhz b (dist a b) a)
  (fun ⟨c, out⟩ ⟨hc, ho⟩ => by
   simp only at hc ho ⊢
   have hlen : out.l.length + dist c b = 1 + dist a b := by
    have := congrArg List.length ho
    simp only [Jb, List.length_append, Jis, List.length_cons] at this
    omega
   have hd := Jec ha hb
   have hf : fits 16 (flen out + 1) = true := Xx (by rw [Js]; omega) (by rw [Js]; omega) (by omega)
   by_cases h0 : dist c b = 0
   ·right
    refine ⟨out, ?_, by rw [h0] at ho; simpa [Jhz] using ho⟩
    have e1 : c.X = b.X := by unfold dist at h0; omega
    have e2 : c.Y = b.Y := by unfold dist at h0; omega
    simp [Jat, e1, e2, ieq]
   ·left
    obtain ⟨n1, n2⟩ := J50 hb hc (by omega)
    refine ⟨(nxt b c, Y0 out (nxt b c)), ?_, ⟨n1, ?_⟩, by show dist (nxt b c) b < dist c b; omega⟩
    ·have ne : bnot (band (ieq c.X b.X) (band (ieq c.Y b.Y) true)) = true := by
      rw [Jce, Jbl, Jbl, Jif, Jif]
      unfold dist at h0; omega
     unfold InR at hc hb
     simp only [Jb, Jat, ne, if_true, hf]
     unfold nxt
     by_cases c1 : c.X < b.X
     ·simp only [Jb, Ye c1, if_true, c1, Jbb (a := c.X) (b := 1) (by omega) (by omega)]
     ·simp only [Jb, Yf c1, if_false, c1, Bool.false_eq_true]
      by_cases c2 : b.X < c.X
      ·simp only [Jb, Jea c2, if_true, c2, Zj (a := c.X) (b := 1) (by omega) (by omega)]
      ·simp only [Jb, Jgc c2, if_false, c2, Bool.false_eq_true]
       by_cases c3 : c.Y < b.Y
       ·simp only [Jb, Ye c3, if_true, c3, Jbb (a := c.Y) (b := 1) (by omega) (by omega)]
       ·simp only [Jb, Yf c3, if_false, c3, Bool.false_eq_true, Zj (a := c.Y) (b := 1) (by omega) (by omega)]
    ·simp only [Jb, Jap]; rw [← ho, ← n2, Jhz, List.append_assoc]; rfl) bigN (a, flit [a]) ⟨ha, rfl⟩ (Xn (by have := Jec ha hb; simp only; omega))
 obtain ⟨r, e, hr⟩ := h
 have c0 : bor (bnot (Jb9 a)) (bnot (Jb9 b)) = false := by
  rw [← Bool.not_eq_true, Jaw, Jce, Jce, ok_iff, ok_iff]; simp [ha, hb]
 unfold Jc0
 rw [c0, e]; try simp only [Jb]
 simp [flst, hr]
end Go.Proofs.Ytemehoioeoohmaa
